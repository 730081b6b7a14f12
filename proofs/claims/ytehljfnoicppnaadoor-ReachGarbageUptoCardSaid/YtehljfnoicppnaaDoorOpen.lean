/- Arguments of a row, opened: what reads as plain data in memory is a datum of our codecs. Conditions: none. -/
import Derived.Test.YtehljfnoicppnaaDoorHeapE
import Derived.Test.YtehljfnoicppnaaDoorCards
import Derived.Test.YtehljfnoicppnaaDoorTie
import Derived.ProofKit
import Derived.OpenShut
import Derived.Carry
import Derived.Lib.SmallJoins
import Derived.Deep.Slices
import Derived.Deep.DeepHandedRow
import Derived.Lib.LaidTab
open Go Go.RowKit Go.ChangeShapes Go.WideShapes Go.Deep Go.Joins
set_option linter.unusedVariables false
set_option maxRecDepth 100000
namespace Go.Proofs.YtehljfnoicppnaaDoor

theorem cellsNm : Tryd.prog.cellsOf 31 = 2 := by kernel_rfl
theorem cellsCl : Tryd.prog.cellsOf 36 = 5 := by kernel_rfl
theorem cellsTm : Tryd.prog.cellsOf 24 = 1 := by kernel_rfl
theorem cellsBd : Tryd.prog.cellsOf 33 = 3 := by kernel_rfl
theorem cellsI : Tryd.prog.cellsOf 3 = 1 := by kernel_rfl
theorem cellsK : Tryd.prog.cellsOf 34 = 1 := by kernel_rfl
theorem cellsS : Tryd.prog.cellsOf 9 = 1 := by kernel_rfl

/-- All memory that is there. -/
abbrev Here (w : World) : Ok := fun k => k < w.heap.size
def OpensAt {α : Type} (d : Cd α) (t : TypeId) : Prop := ∀ {H : Type} (enc : TypeId × Value → H) (w : World) (n : Nat) (cs : List Value) (y : DataW H × List MemPlace),
  DataW.trod enc Tryd.prog w 0 (fun _ => true) true n t cs = some y → ∃ x, d.rel w (Here w) x cs

theorem i64_bounds {n : Int} (h : (Lit.int .i64 n).wf = true) : IOk n := by
  simp [Lit.wf, IntKind.min, IntKind.max, IntKind.bits, IntKind.signed] at h
  unfold IOk
  omega
theorem u8_bounds {n : Int} (h : (Lit.int .u8 n).wf = true) : 0 ≤ n ∧ n ≤ 255 := by
  simp [Lit.wf, IntKind.min, IntKind.max, IntKind.bits, IntKind.signed] at h
  omega

set_option maxRecDepth 100000 in
theorem opens_nm : OpensAt NM 31 := by
  intro H enc w n cs y h
  obtain ⟨y0, y1, n', _, hl, h0, h1⟩ := trod_struct2 Tryd.underlying31 h
  obtain ⟨a, ha, _, hwa⟩ := DataW.trod_int Tryd.underlying3 h0
  obtain ⟨b, hb, _, hwb⟩ := DataW.trod_int Tryd.underlying3 h1
  rw [cellsNm] at hl
  simp only [cellsI] at ha hb
  match cs, hl with
  | [c0, c1], _ =>
    simp at ha hb
    subst ha hb
    exact ⟨⟨a, b⟩, rfl, i64_bounds hwa, i64_bounds hwb⟩

set_option maxRecDepth 100000 in
theorem opens_cl : OpensAt CL 36 := by
  intro H enc w n cs y h
  obtain ⟨y0, y1, y2, y3, n', _, hl, h0, h1, h2, h3⟩ := trod_struct4 Tryd.underlying36 h
  obtain ⟨k, hk, _, hwk⟩ := DataW.trod_int Tryd.underlying34 h0
  obtain ⟨s, hs, _, hws⟩ := DataW.trod_string Tryd.underlying9 h1
  obtain ⟨i, hi, _, hwi⟩ := DataW.trod_int Tryd.underlying3 h2
  obtain ⟨v, hv, hvn⟩ := opens_nm enc w _ _ _ h3
  rw [cellsCl] at hl
  simp only [cellsI, cellsK, cellsS, cellsNm] at hk hs hi hv
  match cs, hl with
  | [c0, c1, c2, c3, c4], _ =>
    simp [nv] at hk hs hi hv
    rcases hv with ⟨rfl, rfl⟩
    rw [hk, hs, hi]
    exact ⟨⟨k, s, i, v⟩, rfl, hws, (u8_bounds hwk).1, (u8_bounds hwk).2, i64_bounds hwi, hvn⟩

/-- A slice of what opens. -/
theorem open_sl {α : Type} {d : Cd α} {t e : TypeId} (hd : OpensAt d e) (ht : Tryd.prog.underlying t = some (.slice e)) (hc : Tryd.prog.cellsOf e = d.sz) {H : Type} (enc : TypeId × Value → H) (w : World) (n : Nat) (cs : List Value) (y : DataW H × List MemPlace)
    (h : DataW.trod enc Tryd.prog w 0 (fun _ => true) true n t cs = some y) : ∃ v xs, cs = [v] ∧ Sl d w (Here w) v xs ∧ xs.length ≤ Rows.uptoBulk y.1 := by
  rcases open_slice ht h with ⟨rfl, rfl⟩ | ⟨a, len, cap, m, n', D, Pl, rfl, _, hlc, hcm, hm, rfl, hel⟩
  · exact ⟨_, [], rfl, Sl.nil d w _, Nat.zero_le _⟩
  · simp only [if_true] at hm
    subst hm
    rw [hc] at hel
    have hsp : ∀ (b : Addr) (u : Value), w.cell? b = some u → b.spot = none ∧ b.block < w.heap.size := by
      intro b u hb
      unfold World.cell? at hb
      split at hb
      · rename_i hh
        split at hb
        · cases hb
        · rename_i hs
          exact ⟨by simpa using hs, (Array.getElem?_eq_some_iff.1 hh).1⟩
      · cases hb
    obtain ⟨b, o, sp⟩ := a
    have hfirst : 0 < len → sp = none ∧ b < w.heap.size := by
      intro hl0
      obtain ⟨cs0, h1, h2⟩ := hel 0 (by omega)
      obtain ⟨x, hx⟩ := hd enc w _ _ _ h2
      obtain ⟨_, h3, h4⟩ := World.cells?_some h1
      have h5 := h4 0 d.pos
      have h6 : 0 < cs0.length := by rw [h3]; exact d.pos
      rw [List.getElem?_eq_getElem h6] at h5
      have h7 := hsp _ _ h5
      simpa [Addr.add] using h7
    have hex : ∀ i : Fin len, ∃ x, ∃ cs : List Value, d.rel w (Here w) x cs ∧ ∀ (k : Nat) (u : Value), cs[k]? = some u → w.cell? ⟨b, o + i.val * d.sz + k, none⟩ = some u := by
      intro i
      obtain ⟨cs', h1, h2⟩ := hel i.val (by have := i.isLt; omega)
      obtain ⟨x, hx⟩ := hd enc w _ _ _ h2
      refine ⟨x, cs', hx, fun k u hu => ?_⟩
      obtain ⟨_, h3, h4⟩ := World.cells?_some h1
      have hk : k < d.sz := by have := (List.getElem?_eq_some_iff.1 hu).1; omega
      have h5 := (h4 k hk).trans hu
      have h0 := (hfirst (by have := i.isLt; omega)).1
      subst h0
      have h6 : (((⟨b, o, none⟩ : Addr).add (i.val * d.sz)).add k) = ⟨b, o + i.val * d.sz + k, none⟩ := by
        unfold Addr.add
        split <;> split <;> simp_all <;> omega
      rwa [h6] at h5
    let xs : List α := List.ofFn fun i => Classical.choose (hex i)
    have hlen : xs.length = len := by simp [xs]
    refine ⟨_, xs, rfl, ⟨some ⟨b, o, sp⟩, m, by rw [hlen], by omega, ?_, ?_⟩, ?_⟩
    · rw [hlen]; omega
    · intro hn
      obtain ⟨h0, hb⟩ := hfirst (by omega)
      subst h0
      refine ⟨b, o, rfl, hb, hb, fun j x hx => ?_⟩
      have hj : j < len := by have := (List.getElem?_eq_some_iff.1 hx).1; omega
      have hx' : x = Classical.choose (hex ⟨j, hj⟩) := by
        simp only [xs, List.getElem?_ofFn, hj, dif_pos, Option.some.injEq] at hx
        exact hx.symm
      obtain ⟨cs, h1, h2⟩ := Classical.choose_spec (hex ⟨j, hj⟩)
      rw [hx']
      exact ⟨cs, h1, h2⟩
    · rw [hlen]
      simp only [Rows.uptoBulk]
      have : ∀ l : List (DataW H), l.length ≤ Rows.uptoBulkAll l := fun l => by
        induction l with
        | nil => simp
        | cons x r ih =>
          simp only [Rows.uptoBulkAll, List.length_cons]
          have hx : 1 ≤ Rows.uptoBulk x := by
            cases x with
            | lit l => cases l <;> simp [Rows.uptoBulk]
            | _ => simp [Rows.uptoBulk]
          omega
      have h1 := this ((List.range len).map D)
      simp at h1
      omega
theorem opens_slice {α : Type} {d : Cd α} {t e : TypeId} (hd : OpensAt d e) (ht : Tryd.prog.underlying t = some (.slice e)) (hc : Tryd.prog.cellsOf e = d.sz) : OpensAt d.slice t := by
  intro H enc w n cs y h
  obtain ⟨v, xs, rfl, hs, _⟩ := open_sl hd ht hc enc w n cs y h
  exact ⟨xs, v, rfl, hs⟩
theorem opens_tm : OpensAt CL.slice 24 := opens_slice opens_cl Tryd.underlying24 cellsCl

set_option maxRecDepth 100000 in
theorem opens_bd : OpensAt BD 33 := by
  intro H enc w n cs y h
  obtain ⟨y0, y1, n', _, hl, h0, h1⟩ := trod_struct2 Tryd.underlying33 h
  obtain ⟨v, hv, hvn⟩ := opens_nm enc w _ _ _ h0
  obtain ⟨t, u, hu, ht⟩ := opens_tm enc w _ _ _ h1
  rw [cellsBd] at hl
  simp only [cellsNm, cellsTm] at hv hu
  match cs, hl with
  | [c0, c1, c2], _ =>
    simp [nv] at hv hu
    rcases hv with ⟨rfl, rfl⟩
    exact ⟨⟨v, t⟩, u, by rw [hu], hvn, ht⟩

/-- An argument that is a slice. -/
theorem arg_sl {α : Type} {d : Cd α} {t e : TypeId} (hd : OpensAt d e) (ht : Tryd.prog.underlying t = some (.slice e)) (hc : Tryd.prog.cellsOf e = d.sz) {H : Type} {enc : TypeId × Value → H} {w : World} {r : Reach} {b0 : Nat} {v : Value} {D : DataW H} {p : List MemPlace}
    (hv : Value.okWide Tryd.prog w r b0 t v) (h : DataW.Trod enc Tryd.prog w 0 (fun _ => true) true t v D p) : ∃ xs, Sl d w (Here w) v xs ∧ xs.length ≤ Rows.uptoBulk D := by
  obtain ⟨fuel, hf⟩ := h
  obtain ⟨v', xs, h1, h2, h3⟩ := open_sl hd ht hc enc w _ _ _ hf
  obtain ⟨A, l, c, rfl⟩ := okWide_slice ht hv
  simp [Value.cells] at h1
  subst h1
  exact ⟨xs, h2, h3⟩
theorem arg_nm {H : Type} {enc : TypeId × Value → H} {w : World} {r : Reach} {b0 : Nat} {v : Value} {D : DataW H} {p : List MemPlace}
    (hv : Value.okWide Tryd.prog w r b0 31 v) (h : DataW.Trod enc Tryd.prog w 0 (fun _ => true) true 31 v D p) : ∃ a b : Int, v = .agg #[.int .i64 a, .int .i64 b] ∧ NmOk ⟨a, b⟩ := by
  obtain ⟨cs, rfl, hsz⟩ := okWide_struct Tryd.underlying31 hv
  obtain ⟨fuel, hf⟩ := h
  obtain ⟨⟨a, b⟩, hx, hn⟩ := opens_nm enc w _ _ _ hf
  refine ⟨a, b, ?_, hn⟩
  have : cs = #[.int .i64 a, .int .i64 b] := by
    apply Array.ext'
    simpa [Value.cells, nv] using hx
  rw [this]

/-- What the row's list gives. -/
theorem gSigns : Tryd.prog.globalNamed "purlin/term.signs" = some 0 := by kernel_rfl

end Go.Proofs.YtehljfnoicppnaaDoor
