/- Plain words for memory: what a slice reads as, what a call owns, and how both live on while memory grows. Conditions: none; no program stands here. -/
import Derived.WalkKit
import Derived.KernelRfl
import Derived.Lib.Hide
import Derived.Deep.LoopGhost
import Derived.Deep.QuietTactic
import Derived.BigQuiet
import Derived.Deep.AppendLies
import Derived.Maps.AppendAt
open Go Go.RowKit
set_option linter.unusedVariables false
namespace Go.Proofs.YtehljfnoicppnaaDoor

/-! ### frames -/
theorem bcell {W w1 : World} (hb : Below W.heap.size W w1) : (∀ b o, b < W.heap.size → w1.cell? ⟨b, o, none⟩ = W.cell? ⟨b, o, none⟩) ∧ (∀ b o, b < W.heap.size → w1.frozen? ⟨b, o, none⟩ = W.frozen? ⟨b, o, none⟩) :=
  ⟨fun b o h => hb.cell (p := ⟨b, o, none⟩) h, fun b o h => hb.frozen (p := ⟨b, o, none⟩) h⟩
/-- `Ext w w'`: nothing that was there has turned. -/
def Ext (w w' : World) : Prop := Below w.heap.size w w'
theorem Ext.refl (w : World) : Ext w w := Below.refl _ _
theorem Ext.trans {a b c : World} (h : Ext a b) (k : Ext b c) : Ext a c := Below.trans h (Below.mono k (Below.size h))
theorem Ext.alloc {a w : World} (h : Ext a w) (o : Obj) : Ext a (w.alloc o) := Below.alloc h (Below.size h) o
theorem Ext.drew {a w : World} (h : Ext a w) : Ext a w.drew := Below.drew h
theorem Ext.drewN {a w : World} (h : Ext a w) (n : Nat) : Ext a (w.drewN n) := ⟨h.os, h.tape, h.output, h.size, h.block⟩
theorem Ext.set {a w : World} (h : Ext a w) {b : Nat} (hb : a.heap.size ≤ b) (o : Nat) (u : Value) : Ext a (w.setCell ⟨b, o, none⟩ u) := Below.setCell h hb u
theorem Ext.le {a w : World} (h : Ext a w) : a.heap.size ≤ w.heap.size := h.size
theorem Ext.cell {a w : World} (h : Ext a w) {b o : Nat} {v : Value} (hc : a.cell? ⟨b, o, none⟩ = some v) : w.cell? ⟨b, o, none⟩ = some v := (Below.cell h (World.block_lt_of_cell? a _ hc)).trans hc
theorem Ext.heap {a w : World} (h : Ext a w) {b : Nat} {o : Obj} (hc : a.heap[b]? = some o) : w.heap[b]? = some o := (h.block b (Array.getElem?_eq_some_iff.1 hc).1).trans hc
theorem Ext.grown {a w w' : World} {row : Option Nat} (h : Ext a w) (hg : w.grownBy w' row) (hr : ∀ k, row = some k → a.heap.size ≤ k) : Ext a w' := Below.grown h hg (Below.size h) hr

/-! ### codecs: how a datum lies in cells -/
abbrev Ok := Nat → Prop
/-- A block of cells. -/
def IsCells (w : World) (k : Nat) : Prop := ∃ c t f, w.heap[k]? = some (.cells c t f)
theorem IsCells.of_cell {w : World} {b o : Nat} {v : Value} (h : w.cell? ⟨b, o, none⟩ = some v) : IsCells w b := by
  unfold World.cell? at h
  unfold IsCells
  cases hb : w.heap[b]? with
  | none => simp [hb] at h
  | some x => cases x <;> simp [hb] at h <;> exact ⟨_, _, _, rfl⟩
structure Cd (α : Type) where
  sz : Nat
  pos : 0 < sz
  rel : World → Ok → α → List Value → Prop
  len : ∀ {w ok x cs}, rel w ok x cs → cs.length = sz
  one : ∀ {w ok x cs}, rel w ok x cs → ∀ u ∈ cs, u.oneCell' = true
  move : ∀ {w w' ok ok' x cs}, rel w ok x cs → (∀ k, ok k → k < w.heap.size → ok' k ∧ w'.heap[k]? = w.heap[k]?) → rel w' ok' x cs
  bnd : ∀ {w ok x cs}, rel w ok x cs → rel w (fun k => ok k ∧ IsCells w k) x cs

variable {α β : Type} {d : Cd α} {w w' w0 : World} {ok ok' : Ok} {A : Option Addr} {xs ys : List α} {v v' : Value}

/-- A reading from an address on. -/
def Rd (d : Cd α) (w : World) (ok : Ok) (A : Option Addr) (xs : List α) : Prop :=
  xs.length ≤ maxLen ∧ (0 < xs.length → ∃ b o, A = some ⟨b, o, none⟩ ∧ ok b ∧ b < w.heap.size ∧
    ∀ (j : Nat) (x : α), xs[j]? = some x → ∃ cs : List Value, d.rel w ok x cs ∧ ∀ (i : Nat) (u : Value), cs[i]? = some u → w.cell? ⟨b, o + j * d.sz + i, none⟩ = some u)
/-- A slice value that reads as a list. -/
def Sl (d : Cd α) (w : World) (ok : Ok) (v : Value) (xs : List α) : Prop :=
  ∃ A c, v = .slice A xs.length c ∧ xs.length ≤ c ∧ Rd d w ok A xs

theorem cell_of_block {b o : Nat} (h : w'.heap[b]? = w.heap[b]?) : w'.cell? ⟨b, o, none⟩ = w.cell? ⟨b, o, none⟩ := World.cell?_of_block (a := ⟨b, o, none⟩) h

theorem Rd.move (h : Rd d w ok A xs) (hk : ∀ k, ok k → k < w.heap.size → ok' k ∧ w'.heap[k]? = w.heap[k]?) : Rd d w' ok' A xs := by
  refine ⟨h.1, fun hn => ?_⟩
  obtain ⟨b, o, hA, hb, hlt, hc⟩ := h.2 hn
  have h1 := hk b hb hlt
  refine ⟨b, o, hA, h1.1, ?_, fun j x hx => ?_⟩
  · have he : w.heap[b]? = some (w.heap[b]'hlt) := Array.getElem?_eq_getElem hlt
    rw [← h1.2] at he
    exact (Array.getElem?_eq_some_iff.1 he).1
  · obtain ⟨cs, hr, hcell⟩ := hc j x hx
    exact ⟨cs, d.move hr hk, fun i u hu => (cell_of_block h1.2).trans (hcell i u hu)⟩
theorem Sl.move (h : Sl d w ok v xs) (hk : ∀ k, ok k → k < w.heap.size → ok' k ∧ w'.heap[k]? = w.heap[k]?) : Sl d w' ok' v xs := by
  obtain ⟨A, c, hv, hc, hr⟩ := h
  exact ⟨A, c, hv, hc, hr.move hk⟩
theorem Rd.bnd (h : Rd d w ok A xs) : Rd d w (fun k => ok k ∧ IsCells w k) A xs := by
  refine ⟨h.1, fun hn => ?_⟩
  obtain ⟨b, o, hA, hb, hlt, hc⟩ := h.2 hn
  refine ⟨b, o, hA, ⟨hb, ?_⟩, hlt, fun j x hx => ?_⟩
  · obtain ⟨cs, hr, hcell⟩ := hc 0 (xs[0]'hn) (List.getElem?_eq_getElem hn)
    have hl := d.len hr
    have hp := d.pos
    exact IsCells.of_cell (hcell 0 (cs[0]'(by omega)) (List.getElem?_eq_getElem (by omega)))
  · obtain ⟨cs, hr, hcell⟩ := hc j x hx
    exact ⟨cs, d.bnd hr, hcell⟩
theorem Sl.bnd (h : Sl d w ok v xs) : Sl d w (fun k => ok k ∧ IsCells w k) v xs := by
  obtain ⟨A, c, hv, hc, hr⟩ := h
  exact ⟨A, c, hv, hc, hr.bnd⟩
/-- Whatever else has turned, a map's block is none that a slice reads. -/
theorem Sl.offmap {r : Nat} {es : Array MapEntry} {n : Nat} (h : Sl d w ok v xs) (hm : w.heap[r]? = some (.map es n)) (hk : ∀ k, k < w.heap.size → k ≠ r → w'.heap[k]? = w.heap[k]?) : Sl d w' ok v xs :=
  h.bnd.move fun k h1 h2 => ⟨h1.1, hk k h2 (fun e => by
    obtain ⟨c, t, f, hc⟩ := h1.2
    rw [e, hm] at hc
    cases hc)⟩
theorem Rd.ext (h : Rd d w ok A xs) (he : Ext w w') : Rd d w' ok A xs := h.move fun k h1 h2 => ⟨h1, he.block k h2⟩
theorem Sl.ext (h : Sl d w ok v xs) (he : Ext w w') : Sl d w' ok v xs := h.move fun k h1 h2 => ⟨h1, he.block k h2⟩
theorem Sl.imp (h : Sl d w ok v xs) (hk : ∀ k, ok k → ok' k) : Sl d w ok' v xs := h.move fun k h1 _ => ⟨hk k h1, rfl⟩
theorem Sl.lt (h : Sl d w ok v xs) : Sl d w (fun k => ok k ∧ k < w.heap.size) v xs := h.move fun _ h1 h2 => ⟨⟨h1, h2⟩, rfl⟩
theorem Sl.len (h : Sl d w ok v xs) : xs.length ≤ maxLen := by obtain ⟨A, c, _, _, hr⟩ := h; exact hr.1
theorem Rd.nil (d : Cd α) (w : World) (ok : Ok) (A : Option Addr) : Rd d w ok A [] := ⟨by simp [maxLen], fun h => absurd h (by simp)⟩
theorem Sl.nil (d : Cd α) (w : World) (ok : Ok) : Sl d w ok (.slice none 0 0) [] := ⟨none, 0, rfl, by simp, Rd.nil d w ok none⟩
theorem Sl.open_ (h : Sl d w ok v xs) : ∃ A c, v = .slice A xs.length c ∧ xs.length ≤ c ∧ Rd d w ok A xs := h

/-- The codec of a slice in one cell. -/
def Cd.slice (d : Cd α) : Cd (List α) where
  sz := 1
  pos := by decide
  rel w ok xs cs := ∃ v, cs = [v] ∧ Sl d w ok v xs
  len := by rintro w ok x cs ⟨v, rfl, _⟩; rfl
  one := by
    rintro w ok x cs ⟨v, rfl, A, c, rfl, _⟩ u hu
    simp at hu; subst hu; rfl
  move := by
    rintro w w' ok ok' x cs ⟨v, rfl, h⟩ hk
    exact ⟨v, rfl, h.move hk⟩
  bnd := by
    rintro w ok x cs ⟨v, rfl, h⟩
    exact ⟨v, rfl, h.bnd⟩

/-- A codec without pointers. -/
def Cd.flat (n : Nat) (hn : 0 < n) (f : α → List Value) (hf : ∀ x, (f x).length = n) (h1 : ∀ x, ∀ u ∈ f x, u.oneCell' = true) : Cd α where
  sz := n
  pos := hn
  rel _ _ x cs := cs = f x
  len := by rintro w ok x cs rfl; exact hf x
  one := by rintro w ok x cs rfl; exact h1 x
  move := by rintro w w' ok ok' x cs rfl _; rfl
  bnd := by rintro w ok x cs rfl; rfl

/-! ### rows of the call's own -/
def Own (d : Cd α) (e : TypeId) (base : Nat) (w : World) (ok : Ok) (v : Value) (xs : List α) : Prop :=
  (∀ k, v.ownBlock = some k → ok k) ∧ ∃ css : List (List Value), css.length = xs.length ∧
    (∀ (j : Nat) (x : α) (cs : List Value), xs[j]? = some x → css[j]? = some cs → d.rel w (fun k => ok k ∧ v.ownBlock ≠ some k) x cs) ∧
    w.ownsRow base e d.sz v xs.length css.flatten

theorem flat_get {n : Nat} : ∀ {css : List (List Value)}, (∀ cs ∈ css, cs.length = n) → ∀ {j i : Nat} {cs : List Value} {u : Value}, css[j]? = some cs → cs[i]? = some u → css.flatten[j * n + i]? = some u
  | [], _, j, i, cs, u, h, _ => by simp at h
  | c :: css, hl, 0, i, cs, u, h, hu => by
    simp at h; subst h
    have hi : i < c.length := (List.getElem?_eq_some_iff.1 hu).1
    simp [List.flatten_cons, List.getElem?_append_left hi, hu]
  | c :: css, hl, j + 1, i, cs, u, h, hu => by
    have hc : c.length = n := hl c (by simp)
    have := flat_get (css := css) (fun c hc => hl c (List.mem_cons_of_mem _ hc)) (j := j) (by simpa using h) hu
    rw [List.flatten_cons, List.getElem?_append_right (by rw [hc, Nat.add_mul]; omega)]
    rw [← this]; congr 1; rw [hc, Nat.add_mul]; omega

theorem Own.lens {css : List (List Value)} (hl : css.length = xs.length) (hr : ∀ (j : Nat) (x : α) (cs : List Value), xs[j]? = some x → css[j]? = some cs → d.rel w ok x cs) : ∀ cs ∈ css, cs.length = d.sz := by
  intro cs hcs
  obtain ⟨j, hj, rfl⟩ := List.getElem_of_mem hcs
  exact d.len (hr j (xs[j]'(by omega)) _ (List.getElem?_eq_getElem _) (List.getElem?_eq_getElem hj))

theorem Own.sl {e base} (h : Own d e base w ok v xs) : Sl d w ok v xs := by
  obtain ⟨hk, css, hl, hr, ho⟩ := h
  have hlen := Own.lens (ok := fun k => ok k ∧ v.ownBlock ≠ some k) hl hr
  rcases Nat.eq_zero_or_pos xs.length with h0 | h0
  · have hx : xs = [] := List.eq_nil_of_length_eq_zero h0
    subst hx
    rcases ho.2 with ⟨rfl, _⟩ | ⟨g, cap, cur, rfl, _⟩
    · exact Sl.nil d w ok
    · exact ⟨_, cap, rfl, by simp, Rd.nil d w ok _⟩
  · have hm : xs.length ≤ maxLen := by
      rcases ho.2 with ⟨_, h1⟩ | ⟨g', cap', cur, he, _, _, h1, h2, _⟩
      · omega
      · exact Nat.le_trans h1 h2
    have hcap : ∃ g cap, v = .slice (some ⟨g, 0, none⟩) xs.length cap ∧ xs.length ≤ cap ∧ g < w.heap.size := by
      rcases ho.2 with ⟨rfl, h1⟩ | ⟨g', cap', cur, he, hb, hh, h1, h2, _⟩
      · omega
      · exact ⟨g', cap', he, h1, (Array.getElem?_eq_some_iff.1 hh).1⟩
    obtain ⟨g, cap, rfl, hc, hg⟩ := hcap
    refine ⟨_, cap, rfl, hc, hm, fun _ => ⟨g, 0, rfl, hk g rfl, hg, fun j x hx => ?_⟩⟩
    have hj : j < css.length := by have := (List.getElem?_eq_some_iff.1 hx).1; omega
    have hcs := List.getElem?_eq_getElem hj
    refine ⟨css[j], d.move (hr j x _ hx hcs) (fun k h1 _ => ⟨h1.1, rfl⟩), fun i u hu => ?_⟩
    have := ho.cells (g := g) rfl (j * d.sz + i) u (flat_get hlen hcs hu)
    unfold Addr.add at this
    split at this
    · rename_i hz; rw [show 0 + j * d.sz + i = 0 by omega]; exact this
    · rw [show 0 + j * d.sz + i = 0 + (j * d.sz + i) by omega]; exact this
theorem Own.nil (d : Cd α) (e base : Nat) (w : World) (ok : Ok) : Own d e base w ok (.slice none 0 0) [] :=
  ⟨by simp [Value.ownBlock], [], rfl, by simp, World.ownsRow_nil w base e d.sz⟩
theorem Own.move {e base} (h : Own d e base w ok v xs) (hk : ∀ k, ok k → k < w.heap.size → ok' k ∧ w'.heap[k]? = w.heap[k]?) : Own d e base w' ok' v xs := by
  obtain ⟨h1, css, hl, hr, ho⟩ := h
  have hlt := ho.lt
  refine ⟨fun k hv => (hk k (h1 k hv) (hlt k hv).2).1, css, hl, fun j x cs hx hcs => d.move (hr j x cs hx hcs) (fun k hok hlk => ⟨⟨(hk k hok.1 hlk).1, hok.2⟩, (hk k hok.1 hlk).2⟩), ?_⟩
  refine ⟨ho.1, ?_⟩
  rcases ho.2 with h2 | ⟨g, cap, cur, hv, hb, hh, hrest⟩
  · exact .inl h2
  · have hg : v.ownBlock = some g := by rw [hv]; rfl
    exact .inr ⟨g, cap, cur, hv, hb, ((hk g (h1 g hg) (hlt g hg).2).2).trans hh, hrest⟩
theorem Own.ext {e base} (h : Own d e base w ok v xs) (he : Ext w w') : Own d e base w' ok v xs := h.move fun k h1 h2 => ⟨h1, he.block k h2⟩
theorem Own.imp {e base} (h : Own d e base w ok v xs) (hk : ∀ k, ok k → ok' k) : Own d e base w ok' v xs := h.move fun k h1 _ => ⟨hk k h1, rfl⟩
theorem Own.bnd {e base} (h : Own d e base w ok v xs) : Own d e base w (fun k => ok k ∧ IsCells w k) v xs := by
  have hty : ∀ k, v.ownBlock = some k → IsCells w k := by
    intro k hk
    obtain ⟨_, css, _, _, ho⟩ := h
    rcases ho.2 with ⟨rfl, _⟩ | ⟨g, cap, cur, rfl, _, hh, _⟩
    · simp [Value.ownBlock] at hk
    · have : g = k := by simpa [Value.ownBlock] using hk
      subst this
      exact ⟨_, _, _, hh⟩
  obtain ⟨h1, css, h2, h3, h4⟩ := h
  exact ⟨fun k hk => ⟨h1 k hk, hty k hk⟩, css, h2, fun j x cs hx hcs => d.move (d.bnd (h3 j x cs hx hcs)) fun k hk _ => ⟨⟨⟨hk.1.1, hk.2⟩, hk.1.2⟩, rfl⟩, h4⟩
theorem Own.base_le {e base} (h : Own d e base w ok v xs) : ∀ k, v.ownBlock = some k → base ≤ k := by
  obtain ⟨_, css, _, _, ho⟩ := h
  exact fun k hk => (ho.lt k hk).1
theorem Own.blk_lt {e base} (h : Own d e base w ok v xs) : ∀ k, v.ownBlock = some k → k < w.heap.size := by
  obtain ⟨_, css, _, _, ho⟩ := h
  exact fun k hk => (ho.lt k hk).2
/-- What is owned and what is written have unlike element types: then they lie apart. -/
theorem Own.typed {e base} (h : Own d e base w ok v xs) : ∀ k, v.ownBlock = some k → ∃ cs, w.heap[k]? = some (.cells cs e (0, 0)) := by
  obtain ⟨_, css, _, _, ho⟩ := h
  intro k hk
  rcases ho.2 with ⟨rfl, _⟩ | ⟨g, cap, cur, rfl, _, hh, _⟩
  · simp [Value.ownBlock] at hk
  · have : g = k := by simpa [Value.ownBlock] using hk
    subst this
    exact ⟨cur, hh⟩

end Go.Proofs.YtehljfnoicppnaaDoor
