/- New, OfVar, Bind, Drop of a heap, each by its contract. Conditions: the heap is one that the package made; the list of signs holds what the program lays there. -/
import Derived.Test.YtehljfnoicppnaaDoorHeapC
open Go Go.RowKit
set_option linter.unusedVariables false
namespace Go.Proofs.YtehljfnoicppnaaDoor

/-- Nothing has turned but block r. -/
structure ExtBut (r : Nat) (w w' : World) : Prop where
  os : w'.os = w.os
  tape : w'.tape = w.tape
  output : w'.output = w.output
  size : w.heap.size ≤ w'.heap.size
  block : ∀ k, k < w.heap.size → k ≠ r → w'.heap[k]? = w.heap[k]?
theorem Ext.but {w w' : World} (h : Ext w w') (r : Nat) : ExtBut r w w' := ⟨h.os, h.tape, h.output, h.size, fun k hk _ => h.block k hk⟩
theorem ExtBut.refl (r : Nat) (w : World) : ExtBut r w w := (Ext.refl w).but r
theorem ExtBut.trans {r : Nat} {a b c : World} (h : ExtBut r a b) (k : ExtBut r b c) : ExtBut r a c :=
  ⟨k.os.trans h.os, k.tape.trans h.tape, k.output.trans h.output, Nat.le_trans h.size k.size, fun i hi hr => (k.block i (Nat.lt_of_lt_of_le hi h.size) hr).trans (h.block i hi hr)⟩
theorem ExtBut.put (r : Nat) (w : World) (o : Obj) : ExtBut r w { w with heap := w.heap.setIfInBounds r o } :=
  ⟨rfl, rfl, rfl, by simp, fun k hk hr => by simp [Ne.symm hr]⟩

/-- The variable's one cell. -/
def vcl (v : Nm) : Cl := ⟨4, ⟨#[]⟩, 0, v⟩
noncomputable def varS (v : Nm) : List Cl := if rightS [vcl v] then [vcl v] else []

set_option maxRecDepth 100000 in
set_option maxHeartbeats 1000000 in
theorem ofVar_calls (a b : Int) (w : World) (ha : NmOk ⟨a, b⟩) (hg : Sg w) :
    Calls Tryd.prog 62 #[.agg #[.int .i64 a, .int .i64 b]] w fun e w' => (∃ v' : Value, e = .returned v' ∧ Sl CL w' (fun q => w.heap.size ≤ q) v' (varS ⟨a, b⟩)) ∧ Ext w w' := by
  have HG := Lib.hid hg
  have ho : ClOk ⟨4, ⟨#[]⟩, 0, ⟨a, b⟩⟩ := ⟨Nat.zero_le _, by simp, by simp, ⟨by simp, by simp⟩, ha⟩
  have HO := Lib.hid ho
  clear hg ho ha
  go_enter Tryd.func62, Tryd.ntmps62
  go_wp2_with (go_at_call 87; refine (single_calls _ _ _ _ _ _ HO.out (HG.out.ext (by repeat (first | with_reducible exact Ext.refl _ | assumption | refine Ext.alloc ?_ _ | refine Ext.drewN ?_ _ | refine Ext.drew ?_ | refine Ext.set ?_ (by simp <;> omega) _ _ | refine Ext.trans ?_ (by assumption))))).mono ?_; rintro e w1 ⟨⟨v', rfl, hv⟩, hw⟩; have HV := Lib.hid hv; have HW := Lib.hid hw; clear hv hw)
  go_ret
  refine ⟨⟨_, rfl, ?_⟩, (by repeat (first | with_reducible exact Ext.refl _ | assumption | refine Ext.alloc ?_ _ | refine Ext.drewN ?_ _ | refine Ext.drew ?_ | refine Ext.set ?_ (by simp <;> omega) _ _ | refine Ext.trans ?_ (by assumption)))⟩
  have hv := HV.out
  unfold varS vcl
  split at hv
  · rename_i hr
    rw [if_pos hr]
    exact hv.imp (by intro q hq; simp at hq; omega)
  · rename_i hr
    rw [if_neg hr, hv]
    exact Sl.nil _ _ _

set_option maxRecDepth 100000 in
set_option maxHeartbeats 1000000 in
theorem new_calls (w : World) :
    Calls Tryd.prog 45 #[] w fun e w' => (∃ p r, e = .returned (.pointer (some ⟨p, 0, none⟩)) ∧ w.heap.size ≤ p ∧ w.heap.size ≤ r ∧ HeapAt w' (fun k => w.heap.size ≤ k) p r []) ∧ Ext w w' := by
  have hmm := @run_makeMap Tryd.prog
  go_enter Tryd.func45, Tryd.ntmps45
  go_wp2
  go_ret
  refine ⟨⟨w.heap.size + 1, w.heap.size, rfl, by omega, Nat.le_refl _, ?_, ⟨[], 0, ?_, by simp [Fits], by simp [Births]⟩, List.Pairwise.nil, by simp⟩, (by repeat (first | with_reducible exact Ext.refl _ | assumption | refine Ext.alloc ?_ _ | refine Ext.drewN ?_ _ | refine Ext.drew ?_ | refine Ext.set ?_ (by simp <;> omega) _ _ | refine Ext.trans ?_ (by assumption)))⟩
  · have := heap_alloc_new (w.alloc (.map #[] 0)) (.cells #[.map (some w.heap.size)] 89)
    simpa using this
  · have := heap_alloc_new w (.map #[] 0)
    exact (Below.heap_alloc _ _ _ (by simp)).trans this

/-- The list with one binding more, in its place. -/
def insL : List Bd → Bd → List Bd
  | [], x => [x]
  | b :: L, x => if lessB x.v b.v then x :: b :: L else b :: insL L x
/-- What Bind tells. -/
noncomputable def bindE (L : List Bd) (v : Nm) (t : List Cl) : Int :=
  if v.a < 0 ∨ varS v = [] ∨ globalS t = false then 6 else if (getL L v).isSome then 70 else if (t.head?.any fun c => decide (c.k = 4) && !lessB c.v v) then 71 else 0
noncomputable def bindL (L : List Bd) (v : Nm) (t : List Cl) : List Bd := if bindE L v t = 0 then insL L ⟨v, t⟩ else L

theorem insL_perm (x : Bd) : ∀ L : List Bd, (insL L x).Perm (x :: L)
  | [] => List.Perm.refl _
  | b :: L => by
    simp only [insL]
    split
    · exact List.Perm.refl _
    · exact ((insL_perm x L).cons b).trans (List.Perm.swap x b L)
theorem insL_mem {L : List Bd} {x b : Bd} : b ∈ insL L x ↔ b = x ∨ b ∈ L := by rw [(insL_perm x L).mem_iff]; simp
theorem insL_sorted {x : Bd} : ∀ {L : List Bd}, Sorted L → (∀ b ∈ L, b.v ≠ x.v) → Sorted (insL L x)
  | [], _, _ => by simp [insL, Sorted]
  | b :: L, h, hn => by
    unfold Sorted at h
    rw [List.pairwise_cons] at h
    simp only [insL]
    split
    · rename_i hl
      unfold Sorted
      rw [List.pairwise_cons, List.pairwise_cons]
      refine ⟨fun c hc => ?_, h⟩
      rcases List.mem_cons.1 hc with rfl | hc
      · exact hl
      · exact lessB_trans hl (h.1 c hc)
    · rename_i hl
      have hl' : lessB x.v b.v = false := by simpa using hl
      have hb : lessB b.v x.v = true := by
        cases hc : lessB b.v x.v
        · exact absurd (lessB_tri hc hl') (hn b (by simp))
        · rfl
      unfold Sorted
      rw [List.pairwise_cons]
      refine ⟨fun c hc => ?_, insL_sorted h.2 fun c hc => hn c (List.mem_cons_of_mem _ hc)⟩
      rcases insL_mem.1 hc with rfl | hc
      · exact hb
      · exact h.1 c hc
theorem bindE_zero {L : List Bd} {v : Nm} {t : List Cl} (h : bindE L v t = 0) : 0 ≤ v.a ∧ varS v ≠ [] ∧ globalS t = true ∧ getL L v = none ∧ ∀ c ∈ t.head?, c.k = 4 → lessB c.v v = true := by
  unfold bindE at h
  split at h
  · cases h
  · rename_i h1
    split at h
    · cases h
    · rename_i h2
      split at h
      · cases h
      · rename_i h3
        simp only [not_or] at h1
        refine ⟨by omega, h1.2.1, by simpa using h1.2.2, by simpa using h2, fun c hc hk => ?_⟩
        cases hl : lessB c.v v
        · exfalso
          apply h3
          simp at hc
          simp [hc, hk, hl]
        · rfl
theorem varS_ok {v : Nm} (h : varS v ≠ []) : -1 ≤ v.a ∧ v.a < 4 ∧ 0 ≤ v.b := by
  unfold varS at h
  split at h
  · rename_i hr
    have hc : cellB (vcl v) = true := by rw [rightS_iff] at hr; exact hr.2.2.2 _ (by simp)
    simp [cellB, CellP, vcl] at hc
    exact ⟨hc.1, hc.2.1, hc.2.2⟩
  · exact absurd rfl h
theorem bindL_ok {L : List Bd} (ho : OkL L) {v : Nm} {t : List Cl} (hv : NmOk v) (h : bindE L v t = 0) : OkL (insL L ⟨v, t⟩) := by
  obtain ⟨h1, h2, h3, h4, h5⟩ := bindE_zero h
  refine ⟨insL_sorted ho.1 (getL_none h4), fun b hb => ?_⟩
  rcases insL_mem.1 hb with rfl | hb
  · have := varS_ok h2
    exact ⟨h1, this.2.1, this.2.2, hv, globalS_iff.1 h3, h5⟩
  · exact ho.2 b hb

theorem births_snoc {es : List MEnt} {ck : Nat} {v : Nm} {u : Value} (h : Births es ck) : Births (es ++ [(v, u, ck)]) (ck + 1) := by
  refine ⟨fun e he => ?_, ?_⟩
  · rcases List.mem_append.1 he with he | he
    · exact Nat.lt_succ_of_lt (h.1 e he)
    · simp at he; subst he; exact Nat.lt_succ_self _
  · rw [List.map_append, List.nodup_append]
    refine ⟨h.2, by simp, fun a ha b hb => ?_⟩
    obtain ⟨e, he, rfl⟩ := List.mem_map.1 ha
    simp at hb
    have := h.1 e he
    omega
/-- What Bind leaves of the map. -/
theorem bind_fits {w w' : World} {ok ok' : Ok} {es : List MEnt} {L : List Bd} {v : Nm} {t : List Cl} {tv : Value} {c : Nat} (h : Fits w ok es L) (hn : getL L v = none) (hk : ∀ u x, Sl CL w ok u x → Sl CL w' ok' u x) (ht : Sl CL w' ok' tv t) : Fits w' ok' (es ++ [(v, tv, c)]) (insL L ⟨v, t⟩) := by
  refine ⟨?_, fun e he => ?_⟩
  · rw [List.map_append]
    refine (List.perm_append_comm).trans ?_
    refine (List.Perm.trans ?_ ((insL_perm ⟨v, t⟩ L).map (·.v)).symm)
    simp only [List.map_cons, List.map_nil, List.singleton_append]
    exact h.1.cons v
  · rcases List.mem_append.1 he with he | he
    · obtain ⟨x, hx, hs⟩ := h.2 e he
      exact ⟨x, insL_mem.2 (.inr hx), hk _ _ hs⟩
    · simp at he
      subst he
      exact ⟨t, insL_mem.2 (.inl rfl), ht⟩

/-- What Bind leaves. -/
def BindP (w : World) (ok : Ok) (p r : Nat) (L : List Bd) (v : Nm) (t : List Cl) (e : Ending) (w' : World) : Prop :=
  e = .returned (.int .i64 (bindE L v t)) ∧ ExtBut r w w' ∧ HeapAt w' (fun k => ok k ∨ w.heap.size ≤ k) p r (bindL L v t)

theorem bind_done {w w2 w4 w5 : World} {ok : Ok} {p r ck : Nat} {L : List Bd} {v : Nm} {t : List Cl} {es : List MEnt} {cv : Value} (hx : bindE L v t = 0) (h2 : Ext w w2) (h4 : Ext w2 w4) (hh : HeapAt w ok p r L) (hm : MapAt w2 r es ck) (hf : Fits w2 ok es L) (ho : OkL L)
    (hn : getL L v = none) (hv : NmOk v) (hc : OwnT w2 w4 cv t) (hbi : Births es ck) (h5 : w5 = ({ w4 with heap := w4.heap.setIfInBounds r (.map ((storeM v cv es ck).1.map ment).toArray (storeM v cv es ck).2) } : World)) :
    BindP w ok p r L v t (.returned (.int .i64 0)) w5 := by
  have hB : ExtBut r w w5 := ((h2.trans h4).but r).trans (by rw [h5]; exact ExtBut.put r w4 _)
  have hrl : r < w4.heap.size := by
    have := (Array.getElem?_eq_some_iff.1 hm).1
    have := h4.le
    omega
  have hfn : findM v es 0 = none := by
    have := hf.look ho.1 v
    rw [hn] at this
    exact this
  have hst : storeM v cv es ck = (es ++ [(v, cv, ck)], ck + 1) := by unfold storeM; rw [hfn]
  have hpr : p ≠ r := fun e => by
    have h1 := (h2.trans h4).heap hh.1
    have h2 := h4.heap hm
    rw [e, h2] at h1
    cases h1
  have hk5 : ∀ k, k < w4.heap.size → k ≠ r → w5.heap[k]? = w4.heap[k]? := fun k hk hr => by rw [h5]; exact (ExtBut.put r w4 _).block k hk hr
  refine ⟨by rw [hx], hB, ?_⟩
  unfold bindL
  rw [if_pos hx]
  have hm4 : w4.heap[r]? = some (.map (es.map ment).toArray ck) := h4.heap hm
  refine ⟨(hk5 p (Array.getElem?_eq_some_iff.1 ((h2.trans h4).heap hh.1)).1 hpr).trans ((h2.trans h4).heap hh.1), ⟨es ++ [(v, cv, ck)], ck + 1, ?_, ?_, births_snoc hbi⟩, bindL_ok ho hv hx⟩
  · unfold MapAt
    rw [h5, hst]
    simp [hrl]
  · refine bind_fits hf hn (fun u x hu => ?_) ?_
    · exact ((hu.ext h4).offmap hm4 hk5).imp fun k hk => .inl hk
    · have := (Own.sl hc).offmap hm4 hk5
      exact this.imp fun k hk => .inr (Nat.le_trans h2.le hk)

set_option maxRecDepth 100000 in
set_option maxHeartbeats 1000000 in
theorem bind_calls (p r : Nat) (L : List Bd) (ok okT : Ok) (a b : Int) (tv : Value) (t : List Cl) (w : World) (h : HeapAt w ok p r L) (ha : NmOk ⟨a, b⟩) (ht : Sl CL w okT tv t) (hg : Sg w) :
    Calls Tryd.prog 30 #[.pointer (some ⟨p, 0, none⟩), .agg #[.int .i64 a, .int .i64 b], tv] w (BindP w ok p r L ⟨a, b⟩ t) := by
  have hp : w.cell? ⟨p, 0, none⟩ = some (.map (some r)) := cell_of_row w p 0 _ _ _ h.1
  have hpl : p < w.heap.size := (Array.getElem?_eq_some_iff.1 h.1).1
  have HH := Lib.hid h
  have HG := Lib.hid hg
  have HA := Lib.hid ha
  have HV := Lib.hid (fun w1 (hE : Ext w w1) => ofVar_calls a b w1 ha (hg.ext hE))
  have HGl := Lib.hid (fun w1 (hE : Ext w w1) => global_calls tv t okT w1 (ht.ext hE) (hg.ext hE))
  have HT := Lib.hid ht
  clear hg ha
  -- nothing is bound: the error alone is told
  have no : ∀ (x : Int) (w' : World), bindE L ⟨a, b⟩ t = x → x ≠ 0 → Ext w w' → BindP w ok p r L ⟨a, b⟩ t (.returned (.int .i64 x)) w' := fun x w' hx hne hE => by
    refine ⟨by rw [hx], hE.but r, ?_⟩
    unfold bindL
    rw [if_neg (by rw [hx]; exact hne)]
    exact (HH.out.ext hE).imp fun _ h => .inl h
  have NO := Lib.hid no
  clear no h
  obtain ⟨A, c, rfl, hc, hr⟩ := ht
  clear hr
  by_cases h1 : a < 0
  · have hx : bindE L ⟨a, b⟩ t = 6 := by unfold bindE; rw [if_pos (.inl h1)]
    have HX := Lib.hid hx
    have g1 : decide (a < (0 : Int)) = true := decide_eq_true h1
    clear hx h1
    go_enter Tryd.func30, Tryd.ntmps30
    go_wp2
    go_ret
    exact NO.out 6 _ HX.out (by decide) (by repeat (first | with_reducible exact Ext.refl _ | assumption | refine Ext.alloc ?_ _ | refine Ext.drewN ?_ _ | refine Ext.drew ?_ | refine Ext.set ?_ (by simp <;> omega) _ _ | refine Ext.trans ?_ (by assumption)))
  have g1 : decide (a < (0 : Int)) = false := decide_eq_false h1
  cases hvs : varS ⟨a, b⟩ with
  | nil =>
    have hx : bindE L ⟨a, b⟩ t = 6 := by unfold bindE; rw [if_pos (.inr (.inl hvs))]
    have HX := Lib.hid hx
    have HVS := Lib.hid hvs
    clear hx h1 hvs
    go_enter Tryd.func30, Tryd.ntmps30
    go_wp2_with (go_at_call 62; refine (HV.out _ (by repeat (first | with_reducible exact Ext.refl _ | assumption | refine Ext.alloc ?_ _ | refine Ext.drewN ?_ _ | refine Ext.drew ?_ | refine Ext.set ?_ (by simp <;> omega) _ _ | refine Ext.trans ?_ (by assumption)))).mono ?_; rintro e w1 ⟨⟨v', rfl, hv⟩, hw⟩; rw [HVS.out] at hv; obtain ⟨A1, c1, rfl, _, _⟩ := hv; have HW := Lib.hid hw; clear hw)
    go_ret
    exact NO.out 6 _ HX.out (by decide) (by repeat (first | with_reducible exact Ext.refl _ | assumption | refine Ext.alloc ?_ _ | refine Ext.drewN ?_ _ | refine Ext.drew ?_ | refine Ext.set ?_ (by simp <;> omega) _ _ | refine Ext.trans ?_ (by assumption)))
  | cons cl rest =>
  have hvs' : varS ⟨a, b⟩ = [vcl ⟨a, b⟩] := by
    unfold varS at hvs ⊢
    split at hvs
    · rename_i hr; rw [if_pos hr]
    · cases hvs
  have HVS := Lib.hid hvs'
  clear hvs hvs'
  cases hgs : globalS t with
  | false =>
    have hx : bindE L ⟨a, b⟩ t = 6 := by unfold bindE; rw [if_pos (.inr (.inr hgs))]
    have HX := Lib.hid hx
    have HGS := Lib.hid hgs
    clear hx h1 hgs
    go_enter Tryd.func30, Tryd.ntmps30
    go_wp2_with (first | (go_at_call 62; refine (HV.out _ (by repeat (first | with_reducible exact Ext.refl _ | assumption | refine Ext.alloc ?_ _ | refine Ext.drewN ?_ _ | refine Ext.drew ?_ | refine Ext.set ?_ (by simp <;> omega) _ _ | refine Ext.trans ?_ (by assumption)))).mono ?_; rintro e w1 ⟨⟨v', rfl, hv⟩, hw⟩; rw [HVS.out] at hv; obtain ⟨A1, c1, rfl, _, _⟩ := hv; have HW := Lib.hid hw; clear hw) | (go_at_call 63; refine (HGl.out _ (by repeat (first | with_reducible exact Ext.refl _ | assumption | refine Ext.alloc ?_ _ | refine Ext.drewN ?_ _ | refine Ext.drew ?_ | refine Ext.set ?_ (by simp <;> omega) _ _ | refine Ext.trans ?_ (by assumption)))).mono ?_; rintro e w2 ⟨rfl, hw⟩; rw [HGS.out]; have HW2 := Lib.hid hw; clear hw))
    go_ret
    exact NO.out 6 _ HX.out (by decide) (by repeat (first | with_reducible exact Ext.refl _ | assumption | refine Ext.alloc ?_ _ | refine Ext.drewN ?_ _ | refine Ext.drew ?_ | refine Ext.set ?_ (by simp <;> omega) _ _ | refine Ext.trans ?_ (by assumption)))
  | true =>
  have hgb : globalB t := globalS_iff.1 hgs
  obtain ⟨⟨x0, x1, x2, ⟨x3, x4⟩⟩, t', rfl⟩ : ∃ x t', t = x :: t' := by
    cases t with
    | nil => exact absurd hgb.1.1 (by simp)
    | cons x t' => exact ⟨x, t', rfl⟩
  have HGS := Lib.hid hgs
  have hsl : t'.length ≤ 255 := by have := hgb.1.2.1; simp at this; omega
  have HSL := Lib.hid hsl
  have hbe : bindE L ⟨a, b⟩ (⟨x0, x1, x2, ⟨x3, x4⟩⟩ :: t') = if (getL L ⟨a, b⟩).isSome then 70 else if decide (x0 = 4) && !lessB ⟨x3, x4⟩ ⟨a, b⟩ then 71 else 0 := by
    unfold bindE
    rw [if_neg (by simp only [not_or]; exact ⟨h1, by rw [HVS.out]; simp, by rw [hgs]; simp⟩)]
    rfl
  have HBE := Lib.hid hbe
  clear hgs hgb hsl hbe h1
  go_enter Tryd.func30, Tryd.ntmps30
  go_wp2_with (first | (go_at_call 62; refine (HV.out _ (by repeat (first | with_reducible exact Ext.refl _ | assumption | refine Ext.alloc ?_ _ | refine Ext.drewN ?_ _ | refine Ext.drew ?_ | refine Ext.set ?_ (by simp <;> omega) _ _ | refine Ext.trans ?_ (by assumption)))).mono ?_; rintro e w1 ⟨⟨v', rfl, hv⟩, hw⟩; rw [HVS.out] at hv; obtain ⟨A1, c1, rfl, _, _⟩ := hv; have HW := Lib.hid hw; clear hw) | (go_at_call 63; refine (HGl.out _ (by repeat (first | with_reducible exact Ext.refl _ | assumption | refine Ext.alloc ?_ _ | refine Ext.drewN ?_ _ | refine Ext.drew ?_ | refine Ext.set ?_ (by simp <;> omega) _ _ | refine Ext.trans ?_ (by assumption)))).mono ?_; rintro e w2 ⟨rfl, hw⟩; rw [HGS.out]; have HW2 := Lib.hid hw; clear hw))
  have hE2 : Ext w w2 := (by repeat (first | with_reducible exact Ext.refl _ | assumption | refine Ext.alloc ?_ _ | refine Ext.drewN ?_ _ | refine Ext.drew ?_ | refine Ext.set ?_ (by simp <;> omega) _ _ | refine Ext.trans ?_ (by assumption)))
  have HE2 := Lib.hid hE2
  have hbox : w2.cell? ⟨w.heap.size, 0, none⟩ = some (.int .i64 a) ∧ w2.cell? ⟨w.heap.size, 1, none⟩ = some (.int .i64 b) := by
    have hE' : Ext (w.alloc (.cells #[.int .i64 a, .int .i64 b] 31)) w2 := HW.out.trans HW2.out
    exact ⟨hE'.cell (cell_of_row _ _ 0 _ _ _ (heap_alloc_new w _)), hE'.cell (cell_of_row _ _ 1 _ _ _ (heap_alloc_new w _))⟩
  obtain ⟨hb0, hb1⟩ := hbox
  have hp2 := hE2.cell hp
  have HH2 := HH.out.ext hE2
  obtain ⟨hh1, ⟨es, ck, hmap, hfit, hbir⟩, hokl⟩ := HH2
  have hl := hfit.look hokl.1 ⟨a, b⟩
  have hlook := fun n => lookup_run (w := w2.drewN n) 87 24 Tryd.underlying87 (.slice none 0 0) (fun _ => zero_term) ⟨a, b⟩ true (((Ext.refl w2).drewN n).heap hmap)
  simp only [kv] at hlook
  have HMap := Lib.hid hmap
  have HFit := Lib.hid hfit
  have HOkl := Lib.hid hokl
  have HL := Lib.hid hl
  have HBir := Lib.hid hbir
  clear hmap hfit hokl hl hE2 hh1 hbir
  cases hgl : getL L ⟨a, b⟩ with
  | some q =>
    have hf := HL.out
    rw [hgl] at hf
    obtain ⟨j, u, hf, _⟩ := hf
    have hv : lookV ⟨a, b⟩ es (.slice none 0 0) true = .tuple #[u, .bool true] := by unfold lookV; rw [hf]; rfl
    rw [hv] at hlook
    have HX : Hid (bindE L ⟨a, b⟩ (⟨x0, x1, x2, ⟨x3, x4⟩⟩ :: t') = 70) := Lib.hid (by rw [HBE.out, hgl]; rfl)
    clear hf hv hgl
    go_quiet (fail)
    go_wp2
    go_ret
    exact NO.out 70 _ HX.out (by decide) (HE2.out.drewN _)
  | none =>
    have hf := HL.out
    rw [hgl] at hf
    have hv : lookV ⟨a, b⟩ es (.slice none 0 0) true = .tuple #[.slice none 0 0, .bool false] := by unfold lookV; rw [hf]; rfl
    rw [hv] at hlook
    have HGL := Lib.hid hgl
    clear hf hv hgl
    go_quiet (fail)
    clear hlook
    go_wp2
    have HT2 := HT.out.ext HE2.out
    obtain ⟨A', c', hA', _, hr'⟩ := HT2
    injection hA' with hA1 hA2 hA3
    subst hA1 hA3
    obtain ⟨tb, to, rfl, _, _⟩ := hr'.some_ (by simp)
    obtain ⟨_, htl, hxo, hc0, hc1, hc2, hc3, hc4⟩ := Sl.cl_at (n := 0) (c := 0) (j := 0) hr' rfl
    simp only [Nat.zero_mul, Nat.add_zero] at hc0 hc1 hc2 hc3 hc4
    clear hr' hA2 hxo
    by_cases hk : x0 = 4
    · subst hk
      cases hls : lessB ⟨x3, x4⟩ ⟨a, b⟩
      · have HX : Hid (bindE L ⟨a, b⟩ (⟨4, x1, x2, ⟨x3, x4⟩⟩ :: t') = 71) := Lib.hid (by rw [HBE.out, HGL.out, hls]; rfl)
        have HLS := Lib.hid hls
        clear hls
        go_region_with (go_at_call 64; refine (less_calls _ _ _ _ _).mono ?_; rintro e w3 ⟨rfl, hw3⟩; rw [HLS.out]; have HW3 := Lib.hid hw3; clear hw3)
        all_goals
          go_wp2
          go_ret
          exact NO.out 71 _ HX.out (by decide) (HE2.out.trans (by repeat (first | with_reducible exact Ext.refl _ | assumption | refine Ext.alloc ?_ _ | refine Ext.drewN ?_ _ | refine Ext.drew ?_ | refine Ext.set ?_ (by simp <;> omega) _ _ | refine Ext.trans ?_ (by assumption))))
      · have HX : Hid (bindE L ⟨a, b⟩ (⟨4, x1, x2, ⟨x3, x4⟩⟩ :: t') = 0) := Lib.hid (by rw [HBE.out, HGL.out, hls]; rfl)
        have HLS := Lib.hid hls
        clear hls
        go_region_with (go_at_call 64; refine (less_calls _ _ _ _ _).mono ?_; rintro e w3 ⟨rfl, hw3⟩; rw [HLS.out]; have hE3 : Ext w2 w3 := (by repeat (first | with_reducible exact Ext.refl _ | assumption | refine Ext.alloc ?_ _ | refine Ext.drewN ?_ _ | refine Ext.drew ?_ | refine Ext.set ?_ (by simp <;> omega) _ _ | refine Ext.trans ?_ (by assumption))); have hb03 := hE3.cell hb0; have hb13 := hE3.cell hb1; have hp3 := hE3.cell hp2; have hc03 := hE3.cell hc0; clear hw3)
        all_goals
          go_wp2
          have HTL : (⟨4, x1, x2, ⟨x3, x4⟩⟩ :: t' : List Cl).length ≤ 2147483648 := by have := HSL.out; simp; omega
          have HC := Lib.hid (fun w1 (hE : Ext w2 w1) => cloneT_calls _ _ okT w1 (HT.out.ext (HE2.out.trans hE)) HTL)
          clear HTL
          go_region_with (go_at_call 51; refine (HC.out _ (by repeat (first | with_reducible exact Ext.refl _ | assumption | refine Ext.alloc ?_ _ | refine Ext.drewN ?_ _ | refine Ext.drew ?_ | refine Ext.set ?_ (by simp <;> omega) _ _ | refine Ext.trans ?_ (by assumption)))).mono ?_; rintro e w4 ⟨⟨cv, rfl, hcv⟩, hw4⟩; have hE4 : Ext w2 w4 := (by repeat (first | with_reducible exact Ext.refl _ | assumption | refine Ext.alloc ?_ _ | refine Ext.drewN ?_ _ | refine Ext.drew ?_ | refine Ext.set ?_ (by simp <;> omega) _ _ | refine Ext.trans ?_ (by assumption))); obtain ⟨w5, hw5⟩ : ∃ w5, w5 = ({ w4 with heap := w4.heap.setIfInBounds r (.map ((storeM ⟨a, b⟩ cv es ck).1.map ment).toArray (storeM ⟨a, b⟩ cv es ck).2) } : World) := ⟨_, rfl⟩; have hmu := mapUpdate_run (w := w4) 87 24 Tryd.underlying87 ⟨a, b⟩ cv (hE4.heap HMap.out); rw [← hw5] at hmu; simp only [kv] at hmu; have hb04 := hE4.cell hb0; have hb14 := hE4.cell hb1; have hp4 := hE4.cell hp2; have HW5 := Lib.hid hw5; have HE4 := Lib.hid hE4; have HCV := Lib.hid (ownT_of (by repeat (first | with_reducible exact Ext.refl _ | assumption | refine Ext.alloc ?_ _ | refine Ext.drewN ?_ _ | refine Ext.drew ?_ | refine Ext.set ?_ (by simp <;> omega) _ _ | refine Ext.trans ?_ (by assumption))) hcv : OwnT w2 w4 _ _); clear hw5 hE4 hcv hw4)
          all_goals
            go_wp2
            go_ret
            exact bind_done HX.out HE2.out HE4.out HH.out HMap.out HFit.out HOkl.out HGL.out HA.out HCV.out HBir.out HW5.out

    · have hkb : (x0 == 4) = false := beq_eq_false_iff_ne.2 hk
      have HX : Hid (bindE L ⟨a, b⟩ (⟨x0, x1, x2, ⟨x3, x4⟩⟩ :: t') = 0) := Lib.hid (by rw [HBE.out, HGL.out]; simp [hk])
      clear hk
      go_quiet (fail)
      go_wp2
      have HTL : (⟨x0, x1, x2, ⟨x3, x4⟩⟩ :: t' : List Cl).length ≤ 2147483648 := by have := HSL.out; simp; omega
      have HC := Lib.hid (fun w1 (hE : Ext w2 w1) => cloneT_calls _ _ okT w1 (HT.out.ext (HE2.out.trans hE)) HTL)
      clear HTL
      go_region_with (go_at_call 51; refine (HC.out _ (by repeat (first | with_reducible exact Ext.refl _ | assumption | refine Ext.alloc ?_ _ | refine Ext.drewN ?_ _ | refine Ext.drew ?_ | refine Ext.set ?_ (by simp <;> omega) _ _ | refine Ext.trans ?_ (by assumption)))).mono ?_; rintro e w4 ⟨⟨cv, rfl, hcv⟩, hw4⟩; have hE4 : Ext w2 w4 := (by repeat (first | with_reducible exact Ext.refl _ | assumption | refine Ext.alloc ?_ _ | refine Ext.drewN ?_ _ | refine Ext.drew ?_ | refine Ext.set ?_ (by simp <;> omega) _ _ | refine Ext.trans ?_ (by assumption))); obtain ⟨w5, hw5⟩ : ∃ w5, w5 = ({ w4 with heap := w4.heap.setIfInBounds r (.map ((storeM ⟨a, b⟩ cv es ck).1.map ment).toArray (storeM ⟨a, b⟩ cv es ck).2) } : World) := ⟨_, rfl⟩; have hmu := mapUpdate_run (w := w4) 87 24 Tryd.underlying87 ⟨a, b⟩ cv (hE4.heap HMap.out); rw [← hw5] at hmu; simp only [kv] at hmu; have hb04 := hE4.cell hb0; have hb14 := hE4.cell hb1; have hp4 := hE4.cell hp2; have HW5 := Lib.hid hw5; have HE4 := Lib.hid hE4; have HCV := Lib.hid (ownT_of (by repeat (first | with_reducible exact Ext.refl _ | assumption | refine Ext.alloc ?_ _ | refine Ext.drewN ?_ _ | refine Ext.drew ?_ | refine Ext.set ?_ (by simp <;> omega) _ _ | refine Ext.trans ?_ (by assumption))) hcv : OwnT w2 w4 _ _); clear hw5 hE4 hcv hw4)
      all_goals
        go_wp2
        go_ret
        exact bind_done HX.out HE2.out HE4.out HH.out HMap.out HFit.out HOkl.out HGL.out HA.out HCV.out HBir.out HW5.out

end Go.Proofs.YtehljfnoicppnaaDoor
