/- A heap: what its pointer holds, and the functions that only read it: value, next, follow, Value, Deref: each by its contract. Conditions: the heap is one that the package made. -/
import Derived.Test.YtehljfnoicppnaaDoorMapA
open Go Go.RowKit
set_option linter.unusedVariables false
namespace Go.Proofs.YtehljfnoicppnaaDoor

/-- A variable with its value. -/
structure Bd where
  v : Nm
  t : List Cl
  deriving DecidableEq

def getL (L : List Bd) (k : Nm) : Option (List Cl) := (L.find? fun b => decide (b.v = k)).map (·.t)
def nextS (L : List Bd) : List Cl → Option (List Cl)
  | [c] => if c.k = 4 then getL L c.v else none
  | _ => none
def Sorted (L : List Bd) : Prop := L.Pairwise fun a b => lessB a.v b.v = true
/-- A binding that may be. -/
def OkBd (b : Bd) : Prop := 0 ≤ b.v.a ∧ b.v.a < 4 ∧ 0 ≤ b.v.b ∧ NmOk b.v ∧ globalB b.t ∧ ∀ c ∈ b.t.head?, c.k = 4 → lessB c.v b.v = true
def OkL (L : List Bd) : Prop := Sorted L ∧ ∀ b ∈ L, OkBd b

/-- The map's entries are the list's bindings. -/
def Fits (w : World) (ok : Ok) (es : List MEnt) (L : List Bd) : Prop :=
  (es.map (·.1)).Perm (L.map (·.v)) ∧ ∀ e ∈ es, ∃ t, ⟨e.1, t⟩ ∈ L ∧ Sl CL w ok e.2.1 t
/-- The entries' stamps: each once, none ahead of the clock. -/
def Births (es : List MEnt) (clock : Nat) : Prop := (∀ e ∈ es, e.2.2 < clock) ∧ (es.map (·.2.2)).Nodup
/-- The pointer's block p holds the map's block r. -/
def HeapAt (w : World) (ok : Ok) (p r : Nat) (L : List Bd) : Prop :=
  w.heap[p]? = some (.cells #[.map (some r)] 89 (0, 0)) ∧ (∃ es clock, MapAt w r es clock ∧ Fits w ok es L ∧ Births es clock) ∧ OkL L
def IsHeap (w : World) (ok : Ok) (v : Value) (L : List Bd) : Prop := ∃ p r, v = .pointer (some ⟨p, 0, none⟩) ∧ HeapAt w ok p r L

theorem lessB_irrefl (a : Nm) : lessB a a = false := by simp [lessB]
theorem lessB_trans {a b c : Nm} (h : lessB a b = true) (k : lessB b c = true) : lessB a c = true := by
  simp only [lessB, decide_eq_true_eq] at *
  omega
theorem lessB_tri {a b : Nm} (h : lessB a b = false) (k : lessB b a = false) : a = b := by
  obtain ⟨a0, a1⟩ := a
  obtain ⟨b0, b1⟩ := b
  simp [lessB] at h k
  have : a0 = b0 := by omega
  have : a1 = b1 := by omega
  simp [*]
theorem Sorted.nodup {L : List Bd} (h : Sorted L) : (L.map (·.v)).Nodup := by
  unfold Sorted at h
  rw [List.nodup_iff_pairwise_ne, List.pairwise_map]
  exact h.imp fun {a b} hab he => by rw [he, lessB_irrefl] at hab; cases hab
theorem getL_mem {L : List Bd} {k : Nm} {t : List Cl} (h : getL L k = some t) : (⟨k, t⟩ : Bd) ∈ L := by
  unfold getL at h
  obtain ⟨b, hb, rfl⟩ := Option.map_eq_some_iff.1 h
  have h1 := List.mem_of_find?_eq_some hb
  have h2 := List.find?_some hb
  simp at h2
  subst h2
  exact h1
theorem mem_getL' : ∀ {L : List Bd}, (L.map (·.v)).Nodup → ∀ {k : Nm} {t : List Cl}, (⟨k, t⟩ : Bd) ∈ L → getL L k = some t
  | [], _, k, t, h => by simp at h
  | b :: L, hn, k, t, h => by
    rw [List.map_cons, List.nodup_cons] at hn
    unfold getL
    rw [List.find?_cons]
    by_cases hb : b.v = k
    · rcases List.mem_cons.1 h with rfl | hm
      · simp
      · exact absurd (List.mem_map.2 ⟨_, hm, rfl⟩) (hb ▸ hn.1)
    · rcases List.mem_cons.1 h with rfl | hm
      · exact absurd rfl hb
      · simp only [hb, decide_false]
        exact mem_getL' hn.2 hm
theorem mem_getL {L : List Bd} (hs : Sorted L) {k : Nm} {t : List Cl} (h : (⟨k, t⟩ : Bd) ∈ L) : getL L k = some t := mem_getL' hs.nodup h
theorem getL_none {L : List Bd} {k : Nm} (h : getL L k = none) : ∀ b ∈ L, b.v ≠ k := by
  unfold getL at h
  rw [Option.map_eq_none_iff, List.find?_eq_none] at h
  intro b hb he
  exact h b hb (by simp [he])

theorem findM_none {k : Nm} : ∀ {es : List MEnt} {i : Nat}, (∀ e ∈ es, e.1 ≠ k) → findM k es i = none
  | [], i, h => rfl
  | e :: es, i, h => by
    simp only [findM]
    rw [if_neg (fun he => h e (by simp) he.symm), findM_none fun e he => h e (List.mem_cons_of_mem _ he)]
theorem findM_some {k : Nm} : ∀ {es : List MEnt} {i : Nat}, (∃ e ∈ es, e.1 = k) → ∃ j v, findM k es i = some (j, v) ∧ ∃ e ∈ es, e.1 = k ∧ e.2.1 = v
  | [], i, h => by obtain ⟨e, he, _⟩ := h; simp at he
  | e :: es, i, h => by
    simp only [findM]
    by_cases hk : k = e.1
    · exact ⟨i, e.2.1, by rw [if_pos hk], e, by simp, hk.symm, rfl⟩
    · rw [if_neg hk]
      obtain ⟨e', he', hk'⟩ := h
      have hm : e' ∈ es := by
        rcases List.mem_cons.1 he' with rfl | hm
        · exact absurd hk'.symm hk
        · exact hm
      obtain ⟨j, v, h1, e2, h2, h3⟩ := findM_some (i := i + 1) ⟨e', hm, hk'⟩
      exact ⟨j, v, h1, e2, List.mem_cons_of_mem _ h2, h3⟩

/-- What the map answers is what the list says. -/
theorem Fits.look {w : World} {ok : Ok} {es : List MEnt} {L : List Bd} (h : Fits w ok es L) (hs : Sorted L) (k : Nm) :
    match getL L k with
    | none => findM k es 0 = none
    | some t => ∃ j v, findM k es 0 = some (j, v) ∧ Sl CL w ok v t := by
  cases hg : getL L k with
  | none =>
    refine findM_none fun e he hk => ?_
    obtain ⟨t, ht, _⟩ := h.2 e he
    exact getL_none hg _ ht hk
  | some t =>
    have hm : k ∈ L.map (·.v) := List.mem_map.2 ⟨_, getL_mem hg, rfl⟩
    obtain ⟨e, he, hk⟩ := List.mem_map.1 (h.1.symm.subset hm)
    obtain ⟨j, v, h1, e2, h2, h3, h4⟩ := findM_some (es := es) (i := 0) (k := k) ⟨e, he, hk⟩
    obtain ⟨t', ht', hsl⟩ := h.2 e2 h2
    rw [h3] at ht'
    have : getL L k = some t' := mem_getL hs ht'
    rw [hg] at this
    injection this with this
    subst this
    exact ⟨j, v, h1, h4 ▸ hsl⟩

theorem Fits.imp {w w' : World} {ok ok' : Ok} {es : List MEnt} {L : List Bd} (h : Fits w ok es L) (hk : ∀ v t, Sl CL w ok v t → Sl CL w' ok' v t) : Fits w' ok' es L :=
  ⟨h.1, fun e he => by obtain ⟨t, h1, h2⟩ := h.2 e he; exact ⟨t, h1, hk _ _ h2⟩⟩
theorem HeapAt.ext {w w' : World} {ok : Ok} {p r : Nat} {L : List Bd} (h : HeapAt w ok p r L) (he : Ext w w') : HeapAt w' ok p r L := by
  obtain ⟨h1, ⟨es, c, h2, h3, hb⟩, h4⟩ := h
  exact ⟨he.heap h1, ⟨es, c, he.heap h2, h3.imp fun _ _ h => h.ext he, hb⟩, h4⟩
theorem HeapAt.imp {w : World} {ok ok' : Ok} {p r : Nat} {L : List Bd} (h : HeapAt w ok p r L) (hk : ∀ k, ok k → ok' k) : HeapAt w ok' p r L := by
  obtain ⟨h1, ⟨es, c, h2, h3, hb⟩, h4⟩ := h
  exact ⟨h1, ⟨es, c, h2, h3.imp fun _ _ h => h.imp hk, hb⟩, h4⟩

/-- What a look-up's two results are worth. -/
def LookP (w w0 : World) (ok : Ok) (r : Option (List Cl)) (e : Ending) (w' : World) : Prop :=
  (∃ v, e = .returned (.tuple #[v, .bool r.isSome]) ∧ match r with | none => v = .slice none 0 0 | some t => Sl CL w' ok v t) ∧ Ext w0 w'

set_option maxRecDepth 100000 in
set_option maxHeartbeats 1000000 in
theorem value_calls (p r : Nat) (L : List Bd) (ok : Ok) (a b : Int) (w : World) (h : HeapAt w ok p r L) :
    Calls Tryd.prog 53 #[.pointer (some ⟨p, 0, none⟩), .agg #[.int .i64 a, .int .i64 b]] w (LookP w w ok (getL L ⟨a, b⟩)) := by
  obtain ⟨h1, ⟨es, c, h2, h3, _⟩, h4⟩ := h
  have hl := h3.look h4.1 ⟨a, b⟩
  have hp : w.cell? ⟨p, 0, none⟩ = some (.map (some r)) := cell_of_row w p 0 _ _ _ h1
  have hpl : p < w.heap.size := (Array.getElem?_eq_some_iff.1 h1).1
  have hlook := fun n => lookup_run (w := (w.alloc (.cells #[.int .i64 a, .int .i64 b] 31)).drewN n) 87 24 Tryd.underlying87 (.slice none 0 0) (fun _ => zero_term) ⟨a, b⟩ true ((((Ext.refl w).alloc _).drewN n).heap h2)
  simp only [kv] at hlook
  have H1 := Lib.hid h1
  have H2 := Lib.hid h2
  have H3 := Lib.hid h3
  have HL := Lib.hid hl
  clear h1 h2 h3 h4 hl
  cases hg : getL L ⟨a, b⟩ with
  | none =>
    have hf := HL.out
    rw [hg] at hf
    have hv : lookV ⟨a, b⟩ es (.slice none 0 0) true = .tuple #[.slice none 0 0, .bool false] := by unfold lookV; rw [hf]; rfl
    rw [hv] at hlook
    have HV := Lib.hid hlook
    clear hg hf hv
    go_enter Tryd.func53, Tryd.ntmps53
    go_wp2
    go_quiet (fail)
    go_wp2
    go_ret2
    exact ⟨⟨_, rfl, rfl⟩, (by repeat (first | with_reducible exact Ext.refl _ | assumption | refine Ext.alloc ?_ _ | refine Ext.drewN ?_ _ | refine Ext.drew ?_ | refine Ext.set ?_ (by simp <;> omega) _ _ | refine Ext.trans ?_ (by assumption)))⟩
  | some t =>
    have hf := HL.out
    rw [hg] at hf
    obtain ⟨j, v, hf, hs⟩ := hf
    have hv : lookV ⟨a, b⟩ es (.slice none 0 0) true = .tuple #[v, .bool true] := by unfold lookV; rw [hf]; rfl
    rw [hv] at hlook
    have HS := Lib.hid hs
    clear hg hf hv hs
    go_enter Tryd.func53, Tryd.ntmps53
    go_wp2
    go_quiet (fail)
    go_wp2
    go_ret2
    exact ⟨⟨_, rfl, HS.out.ext (by repeat (first | with_reducible exact Ext.refl _ | assumption | refine Ext.alloc ?_ _ | refine Ext.drewN ?_ _ | refine Ext.drew ?_ | refine Ext.set ?_ (by simp <;> omega) _ _ | refine Ext.trans ?_ (by assumption)))⟩, (by repeat (first | with_reducible exact Ext.refl _ | assumption | refine Ext.alloc ?_ _ | refine Ext.drewN ?_ _ | refine Ext.drew ?_ | refine Ext.set ?_ (by simp <;> omega) _ _ | refine Ext.trans ?_ (by assumption)))⟩

/-! ### a nil heap is one without bindings to those who read it -/
def HeapOr (w : World) (ok : Ok) (v : Value) (L : List Bd) : Prop := (v = .pointer none ∧ L = []) ∨ ∃ p r, v = .pointer (some ⟨p, 0, none⟩) ∧ HeapAt w ok p r L
theorem HeapOr.ext {w w' : World} {ok : Ok} {v : Value} {L : List Bd} (h : HeapOr w ok v L) (he : Ext w w') : HeapOr w' ok v L := by
  rcases h with h | ⟨p, r, h1, h2⟩
  · exact .inl h
  · exact .inr ⟨p, r, h1, h2.ext he⟩
theorem HeapOr.imp {w : World} {ok ok' : Ok} {v : Value} {L : List Bd} (h : HeapOr w ok v L) (hk : ∀ k, ok k → ok' k) : HeapOr w ok' v L := by
  rcases h with h | ⟨p, r, h1, h2⟩
  · exact .inl h
  · exact .inr ⟨p, r, h1, h2.imp hk⟩
theorem HeapOr.okL {w : World} {ok : Ok} {v : Value} {L : List Bd} (h : HeapOr w ok v L) : OkL L := by
  rcases h with ⟨_, rfl⟩ | ⟨p, r, _, _, _, h⟩
  · exact ⟨List.Pairwise.nil, by simp⟩
  · exact h

set_option maxRecDepth 100000 in
set_option maxHeartbeats 1000000 in
theorem valueNil_calls (ok : Ok) (a b : Int) (w : World) :
    Calls Tryd.prog 53 #[.pointer none, .agg #[.int .i64 a, .int .i64 b]] w (LookP w w ok none) := by
  go_enter Tryd.func53, Tryd.ntmps53
  go_wp2
  go_ret2
  exact ⟨⟨_, rfl, rfl⟩, (by repeat (first | with_reducible exact Ext.refl _ | assumption | refine Ext.alloc ?_ _ | refine Ext.drewN ?_ _ | refine Ext.drew ?_ | refine Ext.set ?_ (by simp <;> omega) _ _ | refine Ext.trans ?_ (by assumption)))⟩

theorem valueOr_calls (v : Value) (L : List Bd) (ok : Ok) (a b : Int) (w : World) (h : HeapOr w ok v L) :
    Calls Tryd.prog 53 #[v, .agg #[.int .i64 a, .int .i64 b]] w (LookP w w ok (getL L ⟨a, b⟩)) := by
  rcases h with ⟨rfl, rfl⟩ | ⟨p, r, rfl, h⟩
  · exact valueNil_calls ok a b w
  · exact value_calls p r L ok a b w h

set_option maxRecDepth 100000 in
set_option maxHeartbeats 1000000 in
theorem next_calls (v : Value) (L : List Bd) (ok : Ok) (tv : Value) (t : List Cl) (w : World) (h : HeapOr w ok v L) {okT : Ok} (ht : Sl CL w okT tv t) :
    Calls Tryd.prog 52 #[v, tv] w (LookP w w ok (nextS L t)) := by
  obtain ⟨A, c, rfl, hc, hr⟩ := ht
  by_cases h1 : t.length = 1
  · obtain ⟨x, rfl⟩ := List.length_eq_one_iff.1 h1
    obtain ⟨⟨x0, x1, x2, ⟨x3, x4⟩⟩, rfl⟩ : ∃ y, x = y := ⟨x, rfl⟩
    obtain ⟨b, o, rfl, _, _⟩ := hr.some_ (by simp)
    obtain ⟨_, _, hxo, hc0, hc1, hc2, hc3, hc4⟩ := Sl.cl_at (n := 0) (c := 0) (j := 0) hr rfl
    simp only [Nat.zero_mul, Nat.add_zero] at hc0 hc1 hc2 hc3 hc4
    have HV := Lib.hid (valueOr_calls v L ok x3 x4 w h)
    have HR := Lib.hid hr
    clear hr h hxo h1
    by_cases hk : x0 = 4
    · subst hk
      have hn : nextS L [⟨4, x1, x2, ⟨x3, x4⟩⟩] = getL L ⟨x3, x4⟩ := by simp [nextS]
      rw [hn]
      clear hn
      go_enter Tryd.func52, Tryd.ntmps52
      go_wp2_with (go_at_call 53; refine HV.out.mono ?_; rintro e w1 ⟨⟨u, rfl, hu⟩, hw⟩; have HU := Lib.hid hu; have HW := Lib.hid hw; clear hu hw)
      go_ret2
      exact ⟨⟨_, rfl, HU.out⟩, HW.out⟩
    · have hb : (x0 != 4) = true := bne_iff_ne.2 hk
      have hn : nextS L [⟨x0, x1, x2, ⟨x3, x4⟩⟩] = none := by simp [nextS, hk]
      rw [hn]
      clear hn hk
      go_enter Tryd.func52, Tryd.ntmps52
      go_wp2
      go_ret2
      exact ⟨⟨_, rfl, rfl⟩, (by repeat (first | with_reducible exact Ext.refl _ | assumption | refine Ext.alloc ?_ _ | refine Ext.drewN ?_ _ | refine Ext.drew ?_ | refine Ext.set ?_ (by simp <;> omega) _ _ | refine Ext.trans ?_ (by assumption)))⟩
  · have hb : ((t.length : Int) != 1) = true := bne_iff_ne.2 (by omega)
    have hn : nextS L t = none := by
      match t with
      | [] => rfl
      | [x] => simp at h1
      | x :: y :: z => rfl
    rw [hn]
    clear hn h1 hr h
    go_enter Tryd.func52, Tryd.ntmps52
    go_wp2
    go_ret2
    exact ⟨⟨_, rfl, rfl⟩, (by repeat (first | with_reducible exact Ext.refl _ | assumption | refine Ext.alloc ?_ _ | refine Ext.drewN ?_ _ | refine Ext.drew ?_ | refine Ext.set ?_ (by simp <;> omega) _ _ | refine Ext.trans ?_ (by assumption)))⟩

end Go.Proofs.YtehljfnoicppnaaDoor
