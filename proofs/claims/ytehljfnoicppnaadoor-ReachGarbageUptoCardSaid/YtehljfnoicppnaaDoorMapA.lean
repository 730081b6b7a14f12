/- Maps keyed by names, run by run: what a look-up, a store and a delete come to. Conditions: the map's block is known whole. -/
import Derived.Test.YtehljfnoicppnaaDoorTermF
open Go Go.RowKit
set_option linter.unusedVariables false
namespace Go.Proofs.YtehljfnoicppnaaDoor

/-- An entry: its key, what is held, when it was born. -/
abbrev MEnt := Nm × Value × Nat
def kv (x : Nm) : Value := .agg #[.int .i64 x.a, .int .i64 x.b]
def ment (e : MEnt) : MapEntry := { key := kv e.1, val := e.2.1, born := e.2.2 }
def findM (k : Nm) : List MEnt → Nat → Option (Nat × Value)
  | [], _ => none
  | e :: es, i => if k = e.1 then some (i, e.2.1) else findM k es (i + 1)

theorem equal_nm (w : World) (x y : Nm) : (Op.equal 31 (kv x) (kv y)).run Tryd.prog w = .ok (decide (x = y)) w := by
  have h := run_eq_nm 9998 w x.a x.b y.a y.b
  have he : decide (x = y) = (x.a == y.a && x.b == y.b) := by
    rw [Bool.eq_iff_iff]
    obtain ⟨a, b⟩ := x
    obtain ⟨c, d⟩ := y
    simp
  rw [he]
  exact h

theorem findAsking_run (k : Nm) (w : World) : ∀ (es : List MEnt) (i : Nat), (Instr.findAsking 31 (kv k) (es.map ment) i).run Tryd.prog w = .ok (findM k es i) w
  | [], i => by simp [Instr.findAsking, findM]
  | e :: es, i => by
    have ih := findAsking_run k w es (i + 1)
    simp only [List.map_cons, Instr.findAsking, Sem.run_bind]
    rw [show (ment e).key = kv e.1 from rfl, equal_nm w k e.1]
    simp only [Result.andThen_ok, findM]
    by_cases h : k = e.1
    · simp [h]; rfl
    · simp [h, ih]

theorem findKey_run (k : Nm) (w : World) (es : List MEnt) : (Instr.findKey 31 (kv k) (es.map ment)).run Tryd.prog w = .ok (findM k es 0) w := by
  have hu := Tryd.underlying31
  simp only [Instr.findKey, Sem.run_bind, run_underlying hu, Result.andThen_ok]
  cases es with
  | nil => simp [Instr.findNow, findM]
  | cons e es =>
    simp only [List.map_cons, Instr.findNow, Instr.sameNow]
    exact findAsking_run k w (e :: es) 0

theorem checkKey_run (k : Nm) (w : World) (b : Bool) : (Instr.checkKey b 10000 31 (kv k)).run Tryd.prog w = .ok () w := by
  kernel_rfl

section
variable {w : World} {r clock : Nat} {es : List MEnt}
def MapAt (w : World) (r : Nat) (es : List MEnt) (clock : Nat) : Prop := w.heap[r]? = some (.map (es.map ment).toArray clock)

theorem run_getMap (h : MapAt w r es clock) : Sem.run Tryd.prog (Go.getObj r) w = .ok (.map (es.map ment).toArray clock) w := by
  unfold MapAt at h
  simp [Go.getObj, Sem.run, h]
theorem zero_term : (zeroValue 24).run Tryd.prog w = .ok (.slice none 0 0) w := by kernel_rfl
theorem zero_name : (zeroValue 31).run Tryd.prog w = .ok (kv ⟨0, 0⟩) w := by kernel_rfl

/-- What a look-up hands back. -/
def lookV (k : Nm) (es : List MEnt) (z : Value) (c : Bool) : Value :=
  match findM k es 0 with
  | some (_, v) => if c then .tuple #[v, .bool true] else v
  | none => if c then .tuple #[z, .bool false] else z

theorem lookup_run (t e : TypeId) (ht : Tryd.prog.underlying t = some (.map 31 e)) (z : Value) (hz : ∀ w, (zeroValue e).run Tryd.prog w = .ok z w) (k : Nm) (c : Bool) (h : MapAt w r es clock) :
    (Instr.lookup t (.map (some r)) (kv k) c).run Tryd.prog w = .ok (lookV k es z c) w := by
  simp only [Instr.lookup, Sem.run_bind, run_underlying ht, Result.andThen_ok, run_getMap h, Sem.run_pure, checkKey_run, findKey_run]
  unfold lookV
  cases hf : findM k es 0 with
  | none => cases c <;> simp [hz]
  | some p => cases c <;> simp

theorem sameBits_kv (x : Nm) : Instr.sameBits 10000 (kv x) (kv x) = true := by
  show Instr.sameBits (9999 + 1) (.agg _) (.agg _) = true
  simp [Instr.sameBits]

/-- What is held behind a store. -/
def storeM (k : Nm) (v : Value) (es : List MEnt) (clock : Nat) : List MEnt × Nat :=
  match findM k es 0 with
  | some (i, _) => (es.modify i fun e => (k, v, e.2.2), clock)
  | none => (es ++ [(k, v, clock)], clock + 1)

theorem eraseIdx_map' {α β : Type} (f : α → β) : ∀ (l : List α) (n : Nat), (l.map f).eraseIdx n = (l.eraseIdx n).map f
  | [], n => by simp
  | a :: l, 0 => by simp
  | a :: l, n + 1 => by simp [eraseIdx_map' f l n]

theorem findM_at (k : Nm) : ∀ (es : List MEnt) (i j : Nat) (v : Value), findM k es i = some (j, v) → ∃ n e, j = i + n ∧ es[n]? = some e ∧ e.1 = k ∧ e.2.1 = v
  | [], i, j, v, h => by simp [findM] at h
  | e :: es, i, j, v, h => by
    simp only [findM] at h
    split at h
    · rename_i he
      simp at h
      exact ⟨0, e, by omega, rfl, he.symm, h.2⟩
    · obtain ⟨n, e', h1, h2, h3, h4⟩ := findM_at k es (i + 1) j v h
      exact ⟨n + 1, e', by omega, by simpa using h2, h3, h4⟩

theorem mapUpdate_run (t e : TypeId) (ht : Tryd.prog.underlying t = some (.map 31 e)) (k : Nm) (v : Value) (h : MapAt w r es clock) :
    (Instr.mapUpdate t (.map (some r)) (kv k) v).run Tryd.prog w = .ok () { w with heap := w.heap.setIfInBounds r (.map ((storeM k v es clock).1.map ment).toArray (storeM k v es clock).2) } := by
  simp only [Instr.mapUpdate, Sem.run_bind, run_underlying ht, Result.andThen_ok, run_getMap h, checkKey_run, findKey_run]
  unfold storeM
  have h' := h
  unfold MapAt at h'
  cases hf : findM k es 0 with
  | none => simp [Go.setObj, Sem.run, h', ment]
  | some p =>
    obtain ⟨i, v0⟩ := p
    obtain ⟨n, e0, hn, he, hk, _⟩ := findM_at k es 0 i v0 hf
    obtain rfl : n = i := by omega
    have hg : (((es.map ment).toArray[n]?).map (·.key)).getD (kv k) = kv k := by
      simp [he, ment, hk]
    simp only [Instr.keyThatStays]
    rw [hg, sameBits_kv]
    simp only [if_true, Sem.run_bind, Sem.run_pure, Result.andThen_ok]
    have harr : ((es.map ment).toArray.modify n fun e => { e with key := kv k, val := v }) = ((es.modify n fun e => (k, v, e.2.2)).map ment).toArray := by
      apply Array.ext_getElem?
      intro j
      simp only [Array.getElem?_modify, List.getElem?_toArray, List.getElem?_map, List.getElem?_modify]
      by_cases hj : n = j
      · simp [hj]; cases es[j]? <;> simp [ment]
      · simp [hj]
    simp only [Go.setObj, Sem.run, h', harr]

theorem delete_run (t e ty : TypeId) (ht : Tryd.prog.underlying t = some (.map 31 e)) (k : Nm) (h : MapAt w r es clock) :
    (Builtin.delete_ #[t, 31] ty #[.map (some r), kv k]).run Tryd.prog w = .ok (.tuple #[]) { w with heap := w.heap.setIfInBounds r (.map ((match findM k es 0 with | some (i, _) => es.eraseIdx i | none => es).map ment).toArray clock) } := by
  have h' := h
  unfold MapAt at h'
  simp only [Builtin.delete_, List.getElem?_toArray, List.getElem?_cons_zero, List.getElem?_cons_succ, Sem.run_bind, run_underlying ht, Result.andThen_ok, run_getMap h, checkKey_run, findKey_run]
  cases hf : findM k es 0 with
  | none => simp [Go.setObj, Sem.run, h']
  | some p =>
    obtain ⟨i, v0⟩ := p
    obtain ⟨n, e0, hn, he, hk, _⟩ := findM_at k es 0 i v0 hf
    obtain rfl : n = i := by omega
    have hlt : n < es.length := (List.getElem?_eq_some_iff.1 he).1
    have harr : (es.map ment).toArray.eraseIdxIfInBounds n = ((es.eraseIdx n).map ment).toArray := by
      simp [Array.eraseIdxIfInBounds, hlt, eraseIdx_map']
    simp [Go.setObj, Sem.run, h', harr]
end

end Go.Proofs.YtehljfnoicppnaaDoor
