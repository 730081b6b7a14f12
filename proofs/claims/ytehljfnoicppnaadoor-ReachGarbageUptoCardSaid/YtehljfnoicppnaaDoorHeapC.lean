/- Chains: the row of all that a term leads to; terms in memory that somebody owns. Conditions: none; no program is walked here. -/
import Derived.Test.YtehljfnoicppnaaDoorHeapB
open Go Go.RowKit
set_option linter.unusedVariables false
namespace Go.Proofs.YtehljfnoicppnaaDoor

/-- A term in memory that somebody owns. -/
def OT : Cd (List Cl) where
  sz := 1
  pos := by decide
  rel w ok xs cs := ∃ v, cs = [v] ∧ Own CL 36 0 w ok v xs
  len := by rintro w ok x cs ⟨v, rfl, _⟩; rfl
  one := by
    rintro w ok x cs ⟨v, rfl, h⟩ u hu
    obtain ⟨A, c, rfl, _⟩ := h.sl
    simp at hu; subst hu; rfl
  move := by
    rintro w w' ok ok' x cs ⟨v, rfl, h⟩ hk
    exact ⟨v, rfl, h.move hk⟩
  bnd := by
    rintro w ok x cs ⟨v, rfl, h⟩
    exact ⟨v, rfl, h.bnd⟩
theorem OT.tm {w : World} {ok : Ok} {x : List Cl} {cs : List Value} (h : OT.rel w ok x cs) : TM.rel w ok x cs := by
  obtain ⟨v, rfl, h⟩ := h
  exact ⟨v, rfl, h.sl⟩
theorem OwnT.ot {w0 w : World} {v : Value} {t : List Cl} (h : OwnT w0 w v t) : OT.rel w (fun k => w0.heap.size ≤ k) t [v] := by
  refine ⟨v, rfl, ?_⟩
  obtain ⟨h1, css, h2, h3, h4⟩ := h
  refine ⟨h1, css, h2, h3, h4.1, ?_⟩
  rcases h4.2 with h5 | ⟨g, cap, cur, h5, h6, h7⟩
  · exact .inl h5
  · exact .inr ⟨g, cap, cur, h5, Nat.zero_le _, h7⟩

def chainN : Nat → List Bd → List Cl → List (List Cl)
  | 0, _, t => [t]
  | n + 1, L, t => t :: match nextS L t with | none => [] | some u => chainN n L u
def chainF (L : List Bd) (t : List Cl) : List (List Cl) := chainN L.length L t
def chainS (L : List Bd) (t : List Cl) : List (List Cl) := if t.length = 0 then [] else chainF L t
theorem chainN_none {L : List Bd} {t : List Cl} (h : nextS L t = none) : ∀ n, chainN n L t = [t]
  | 0 => rfl
  | n + 1 => by simp only [chainN, h]
theorem chain_more {L : List Bd} : ∀ (n m : Nat) (t : List Cl), nextS L (followN n L t) = none → n ≤ m → chainN m L t = chainN n L t
  | 0, m, t, h, _ => by
    have h' : nextS L t = none := h
    rw [chainN_none h', chainN_none h']
  | n + 1, 0, t, h, hm => by omega
  | n + 1, m + 1, t, h, hm => by
    simp only [followN] at h
    simp only [chainN]
    cases hn : nextS L t with
    | none => rfl
    | some u =>
      rw [hn] at h
      simp only
      rw [chain_more n m u h (by omega)]
theorem chainF_eq {L : List Bd} (ho : OkL L) (t : List Cl) : chainF L t = t :: (match nextS L t with | none => [] | some u => chainF L u) := by
  have h : chainN (L.length + 1) L t = chainF L t := chain_more L.length (L.length + 1) t (follow_end ho _ _ (rank_le L t)) (by omega)
  rw [← h]
  rfl
theorem chainN_len {L : List Bd} : ∀ (n : Nat) (t : List Cl), (chainN n L t).length ≤ n + 1
  | 0, t => by simp [chainN]
  | n + 1, t => by
    simp only [chainN]
    cases nextS L t with
    | none => simp
    | some u => have := chainN_len n (L := L) u; simp; omega
theorem chainF_len (L : List Bd) (t : List Cl) : (chainF L t).length ≤ L.length + 1 := chainN_len _ _

/-- What lies below a world's end is the same in all that came of it. -/
theorem Sl.old {α : Type} {d : Cd α} {w w1 w2 : World} {ok : Ok} {v : Value} {xs : List α} (h : Sl d w1 (fun k => ok k ∧ k < w.heap.size) v xs) (h1 : Ext w w1) (h2 : Ext w w2) : Sl d w2 (fun k => ok k ∧ k < w.heap.size) v xs :=
  h.move fun k hk _ => ⟨hk, (h2.block k hk.2).trans (h1.block k hk.2).symm⟩
theorem HeapOr.lt {w : World} {ok : Ok} {v : Value} {L : List Bd} (h : HeapOr w ok v L) : HeapOr w (fun k => ok k ∧ k < w.heap.size) v L := by
  rcases h with h | ⟨p, r, h1, h2, ⟨es, c, h3, h4, hb⟩, h5⟩
  · exact .inl h
  · exact .inr ⟨p, r, h1, h2, ⟨es, c, h3, h4.imp fun _ _ h => h.lt, hb⟩, h5⟩

abbrev zTm : Value := .slice none 0 0
theorem info_ot : (Tryd.prog.info? 24).map (fun i => (i.zero, i.size, i.bytes)) = some (some zTm, OT.sz, 24) := by kernel_rfl

end Go.Proofs.YtehljfnoicppnaaDoor
