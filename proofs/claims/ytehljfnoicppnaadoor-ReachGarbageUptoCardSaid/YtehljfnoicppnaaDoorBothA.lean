/- Two heaps side by side, the program's and the reference's: the plain steps. Conditions: none; no code is walked here. -/
import Derived.Test.YtehljfnoicppnaaDoorRefF
import Derived.Test.YtehljfnoicppnaaDoorRefH
import Derived.Test.YtehljfnoicppnaaDoorLiveG
open Go Go.RowKit
set_option linter.unusedVariables false
namespace Go.Proofs.YtehljfnoicppnaaDoor

theorem HeapAt.move {w w' : World} {ok ok' : Ok} {p r : Nat} {L : List Bd} (h : HeapAt w ok p r L) (hp : w'.heap[p]? = w.heap[p]?) (hr : w'.heap[r]? = w.heap[r]?) (hk : ∀ k, ok k → k < w.heap.size → ok' k ∧ w'.heap[k]? = w.heap[k]?) : HeapAt w' ok' p r L := by
  obtain ⟨h1, ⟨es, c, h2, h3, hb⟩, h4⟩ := h
  exact ⟨hp.trans h1, ⟨es, c, hr.trans h2, h3.imp fun _ _ h => h.move hk, hb⟩, h4⟩
theorem HeapAt.p_lt {w : World} {ok : Ok} {p r : Nat} {L : List Bd} (h : HeapAt w ok p r L) : p < w.heap.size := (Array.getElem?_eq_some_iff.1 h.1).1
theorem HeapAt.r_lt {w : World} {ok : Ok} {p r : Nat} {L : List Bd} (h : HeapAt w ok p r L) : r < w.heap.size := by
  obtain ⟨_, ⟨es, c, h2, _⟩, _⟩ := h
  exact (Array.getElem?_eq_some_iff.1 h2).1
theorem RefAt.q_lt {w : World} {ok : Ok} {q : Nat} {L : List Bd} (h : RefAt w ok q L) : q < w.heap.size := by
  obtain ⟨v, h1, _⟩ := h
  exact (Array.getElem?_eq_some_iff.1 h1).1
theorem HeapAt.pq {w : World} {ok ok' : Ok} {p r q : Nat} {L M : List Bd} (h : HeapAt w ok p r L) (k : RefAt w ok' q M) : p ≠ q ∧ r ≠ q := by
  obtain ⟨h1, ⟨es, c, h2, _⟩, _⟩ := h
  obtain ⟨v, k1, _⟩ := k
  constructor
  · rintro rfl
    rw [h1] at k1
    injection k1 with k1
    injection k1 with _ k1
    cases k1
  · rintro rfl
    unfold MapAt at h2
    rw [h2] at k1
    cases k1
theorem RefAt.offmap {w w' : World} {ok : Ok} {q r : Nat} {es : Array MapEntry} {n : Nat} {L : List Bd} (h : RefAt w ok q L) (hm : w.heap[r]? = some (.map es n)) (hk : ∀ k, k < w.heap.size → k ≠ r → w'.heap[k]? = w.heap[k]?) : RefAt w' ok q L := by
  have hq := h.q_lt
  obtain ⟨v, h1, h2⟩ := h
  refine ⟨v, (hk q hq (fun e => ?_)).trans h1, h2.offmap hm hk⟩
  rw [e, hm] at h1
  cases h1
theorem HeapAt.map {w : World} {ok : Ok} {p r : Nat} {L : List Bd} (h : HeapAt w ok p r L) : ∃ es n, w.heap[r]? = some (.map es n) := by
  obtain ⟨_, ⟨es, c, h2, _⟩, _⟩ := h
  exact ⟨_, _, h2⟩
theorem HeapAt.lt {w : World} {ok : Ok} {p r : Nat} {L : List Bd} (h : HeapAt w ok p r L) : HeapAt w (fun k => ok k ∧ k < w.heap.size) p r L := h.move rfl rfl fun k h1 h2 => ⟨⟨h1, h2⟩, rfl⟩

/-- Both heaps hold the same list; what they read was made behind w0. -/
def BothAt (w0 w : World) (p r q : Nat) (L : List Bd) : Prop :=
  ∃ ok : Ok, (∀ k, ok k → w0.heap.size ≤ k ∧ k < w.heap.size ∧ k ≠ q) ∧ HeapAt w ok p r L ∧ RefAt w ok q L ∧ w0.heap.size ≤ p ∧ w0.heap.size ≤ r ∧ w0.heap.size ≤ q
theorem BothAt.ext {w0 w w' : World} {p r q : Nat} {L : List Bd} (h : BothAt w0 w p r q L) (he : Ext w w') : BothAt w0 w' p r q L := by
  obtain ⟨ok, h1, h2, h3, h4⟩ := h
  exact ⟨ok, fun k hk => ⟨(h1 k hk).1, Nat.lt_of_lt_of_le (h1 k hk).2.1 he.le, (h1 k hk).2.2⟩, h2.ext he, h3.ext he, h4⟩
theorem ExtBut.ext_left {r : Nat} {a b c : World} (h : Ext a b) (k : ExtBut r b c) : ExtBut r a c := (h.but r).trans k

/-- What both hold after a round. -/
noncomputable def bothL (l : List Bd) : List Bd → List Bd
  | M => l.foldl (fun L b => bindL L b.v b.t) M

theorem both_step {w0 wr W1 w6 W2 w7 w9 : World} {ok : Ok} {p r q tb : Nat} {L L' : List Bd} (hok : ∀ k, ok k → w0.heap.size ≤ k ∧ k < wr.heap.size ∧ k ≠ q) (hH : HeapAt wr ok p r L) (hR : RefAt wr ok q L) (h0 : w0.heap.size ≤ p ∧ w0.heap.size ≤ r ∧ w0.heap.size ≤ q) (h0r : Ext w0 wr)
    (h1 : Ext wr W1) (h6 : ExtBut r W1 w6) (hH6 : HeapAt w6 (fun k => ok k ∨ W1.heap.size ≤ k) p r L') (h2 : Ext w6 W2) (h7 : ExtBut q W2 w7) (hR7 : RefAt w7 (fun k => ok k ∨ W2.heap.size ≤ k) q L') (h9 : ExtBut tb w7 w9) (htb : wr.heap.size ≤ tb) (htb2 : ∀ k, W1.heap.size ≤ k → k < w7.heap.size → k ≠ tb) :
    BothAt w0 w9 p r q L' ∧ Ext w0 w9 := by
  have l0 := h0r.le
  have l1 := h1.le
  have l6 := h6.size
  have l2 := h2.le
  have l7 := h7.size
  have l9 := h9.size
  have hp := hH.p_lt
  have hr := hH.r_lt
  have hq := hR.q_lt
  obtain ⟨hpq, hrq⟩ := hH.pq hR
  have e7 : ∀ k, k < w6.heap.size → k ≠ q → w7.heap[k]? = w6.heap[k]? := fun k hk hkq => (h7.block k (by omega) hkq).trans (h2.block k hk)
  have e9 : ∀ k, k < w7.heap.size → k ≠ tb → w9.heap[k]? = w7.heap[k]? := fun k hk hkt => h9.block k hk hkt
  refine ⟨⟨fun k => (ok k ∨ W1.heap.size ≤ k) ∧ k < w9.heap.size, ?_, ?_, ?_, h0⟩, ?_⟩
  · rintro k ⟨hk | hk, hlt⟩
    · have := hok k hk
      exact ⟨this.1, hlt, this.2.2⟩
    · exact ⟨by omega, hlt, by omega⟩
  · refine hH6.move ?_ ?_ ?_
    · exact (e9 p (by omega) (by omega)).trans (e7 p (by omega) hpq)
    · exact (e9 r (by omega) (by omega)).trans (e7 r (by omega) hrq)
    · intro k hk hlt
      have hkq : k ≠ q ∧ k ≠ tb := by
        rcases hk with hk | hk
        · have := hok k hk
          exact ⟨this.2.2, by omega⟩
        · exact ⟨by omega, htb2 k hk (by omega)⟩
      exact ⟨⟨hk, by omega⟩, (e9 k (by omega) hkq.2).trans (e7 k hlt hkq.1)⟩
  · refine hR7.move (e9 q (by omega) (by omega)) ?_
    intro k hk hlt
    have hkt : k ≠ tb := by
      rcases hk with hk | hk
      · have := hok k hk
        omega
      · exact htb2 k (by omega) hlt
    refine ⟨⟨?_, by omega⟩, e9 k hlt hkt⟩
    rcases hk with hk | hk
    · exact .inl hk
    · exact .inr (by omega)
  · exact h9.ext0 (h7.ext0 ((h6.ext0 (h0r.trans h1) h0.2.1).trans h2) h0.2.2) (by omega)

/-! ### writing into a term of one's own -/
/-- The block holds so many cells of terms, free to be written. -/
def TbOk (w : World) (tb n : Nat) : Prop := ∃ cur : Array Value, w.heap[tb]? = some (.cells cur 36 (0, 0)) ∧ n * 5 ≤ cur.size
theorem TbOk.cell {w : World} {tb n : Nat} (h : TbOk w tb n) {k : Nat} (hk : k < n) : (∃ u, w.cell? ⟨tb, k * 5 + 2, none⟩ = some u) ∧ w.frozen? ⟨tb, k * 5 + 2, none⟩ = false ∧ tb < w.heap.size := by
  obtain ⟨cur, h1, h2⟩ := h
  refine ⟨⟨cur[k * 5 + 2]'(by omega), ?_⟩, by simp [World.frozen?, h1], (Array.getElem?_eq_some_iff.1 h1).1⟩
  rw [cell_of_row w tb _ _ _ _ h1, Array.getElem?_eq_getElem (by omega)]
theorem TbOk.set {w : World} {tb n : Nat} (h : TbOk w tb n) (o : Nat) (v : Value) : TbOk (w.setCell ⟨tb, o, none⟩ v) tb n := by
  obtain ⟨cur, h1, h2⟩ := h
  exact ⟨cur.setIfInBounds o v, by simp [World.setCell, Array.getElem?_modify, h1], by simpa using h2⟩
theorem TbOk.move {w w' : World} {tb n : Nat} (h : TbOk w tb n) (he : w'.heap[tb]? = w.heap[tb]?) : TbOk w' tb n := by
  obtain ⟨cur, h1, h2⟩ := h
  exact ⟨cur, he.trans h1, h2⟩
theorem ExtBut.set {r : Nat} {a w : World} (h : ExtBut r a w) (o : Nat) (v : Value) : ExtBut r a (w.setCell ⟨r, o, none⟩ v) :=
  h.trans ⟨rfl, rfl, rfl, by simp, fun k _ hk => Below.heap_setCell w ⟨r, o, none⟩ v k hk⟩
theorem ExtBut.drewN {r : Nat} {a w : World} (h : ExtBut r a w) (n : Nat) : ExtBut r a (w.drewN n) := ⟨h.os, h.tape, h.output, h.size, h.block⟩
/-- Where a term of one's own lies. -/
theorem own_block {w : World} {base : Nat} {ok : Ok} {A : Option Addr} {c n : Nat} {t : List Cl} (h : Own CL 36 base w ok (.slice A n c) t) (hn : 0 < t.length) : ∃ tb, A = some ⟨tb, 0, none⟩ ∧ ok tb ∧ TbOk w tb t.length := by
  obtain ⟨hk, css, h2, h3, ho⟩ := h
  rcases ho.2 with ⟨_, h5⟩ | ⟨g, cap, cur, hv, hb, hh, hnc, hcm, hcs, _⟩
  · omega
  · injection hv with hA _ _
    refine ⟨g, hA, hk g (by rw [hA]; rfl), cur, hh, ?_⟩
    have hsz : CL.sz = 5 := rfl
    rw [hcs, hsz]
    exact Nat.mul_le_mul_right 5 hnc

end Go.Proofs.YtehljfnoicppnaaDoor
