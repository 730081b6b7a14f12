/- slices.Reverse over a row of names of the call's own, and reach.Path, each by its contract. Conditions: the heap is nil or one that the package made; at most 2^31 - 1 names can be come to. -/
import Derived.Test.YtehljfnoicppnaaDoorReachE
import Derived.Shelf.SlicesQ.Reverse
open Go Go.RowKit Go.Shelf
set_option linter.unusedVariables false
namespace Go.Proofs.YtehljfnoicppnaaDoor
open Go.Sort Go.Lib

/-- The numbers of Reverse's function and types here. -/
def revNm_ren : Go.Shelf.Ren := ⟨fun | 35 => 68 | n => n, fun | 22 => 49 | 23 => 31 | 3 => 3 | 0 => 0 | 4 => 4 | n => n, fun | n => n⟩
theorem revNm : Go.Proofs.SlLaysE0.n35 Tryd.prog revNm_ren := {
  mixed := by kernel_rfl,
  f35 := ⟨Tryd.f68.name, by decide, Tryd.func68.trans (congrArg some (by kernel_rfl))⟩,
  t0 := Tryd.underlying0,
  a0 := Tryd.isAgg0,
  z0 := Tryd.sizeOf0,
  v0 := Tryd.zeroValue0,
  t3 := Tryd.underlying3,
  a3 := Tryd.isAgg3,
  z3 := Tryd.sizeOf3,
  v3 := Tryd.zeroValue3,
  t4 := Tryd.underlying4,
  a4 := Tryd.isAgg4,
  z4 := Tryd.sizeOf4,
  v4 := Tryd.zeroValue4,
  t22 := Tryd.underlying49,
  a22 := Tryd.isAgg49,
  z22 := Tryd.sizeOf49,
  v22 := Tryd.zeroValue49 }

theorem grow_none (w : World) : grow w #[] = w := by simp [grow]
/-- Reversing a row of the call's own in place. -/
theorem reverse_calls (v : Value) (ss : List Nm) (w0 w1 : World) (hE : Ext w0 w1) (hO : Own NF 31 w0.heap.size w1 (fun k => w0.heap.size ≤ k) v ss) :
    Calls Tryd.prog 68 #[v] w1 fun e w' => e = .returned (.tuple #[]) ∧ Own NF 31 w0.heap.size w' (fun k => w0.heap.size ≤ k) v ss.reverse ∧ Ext w0 w' := by
  by_cases hne : ss = []
  · subst hne
    obtain ⟨A, c, rfl, _, _⟩ := hO.sl
    have HN := AnyQ.slices_Reverse_empty revNm A c w1
    change Calls Tryd.prog 68 _ _ _ at HN
    refine HN.mono ?_
    rintro e w' ⟨rfl, rfl⟩
    exact ⟨rfl, by simpa using hO, hE⟩
  · obtain ⟨g, cap, cur, rfl, hb, hg, h1, h2, h3, hH⟩ := own_holds hO hne
    have hs := AnyQ.slices_Reverse revNm 2 Tryd.isAgg31 Tryd.sizeOf31 nv (fun _ => rfl) (fun x v hv => by simp [nv] at hv; rcases hv with rfl | rfl <;> rfl) g 0 cap ss.toArray w1 hH (by unfold maxLen at h2; simp; omega)
    change Calls Tryd.prog 68 _ _ _ at hs
    simp only [List.size_toArray] at hs
    refine hs.mono ?_
    rintro e w' ⟨rfl, n, rfl⟩
    have e1 : putRowK nv 2 (Sort.ahead w1 n) g 0 ss.toArray.reverse = sortWorldK nv 2 w1 g 0 n ss.reverse.toArray #[] := by unfold sortWorldK; rw [grow_none]; simp
    rw [e1]
    exact ⟨rfl, own_sorted (List.length_reverse) hb hg h1 h2 h3, ext_sorted hE hb⟩

/-- By which a name was come to. -/
def byOf : List Way → Nm → Nm
  | [], _ => ⟨0, 0⟩
  | p :: S, v => if p.1 = v then p.2 else byOf S v
theorem byOf_mem {x y : Nm} : ∀ {S : List Way}, (keysW S).Nodup → (x, y) ∈ S → byOf S x = y
  | [], _, h => by simp at h
  | p :: S, hn, h => by
    have hn' : p.1 ∉ keysW S ∧ (keysW S).Nodup := by simpa [keysW] using hn
    rcases List.mem_cons.1 h with h1 | h1
    · subst h1
      simp [byOf]
    · have hne : p.1 ≠ x := fun e => hn'.1 (by rw [e]; exact List.mem_map.2 ⟨(x, y), h1, rfl⟩)
      simp only [byOf, if_neg hne]
      exact byOf_mem hn'.2 h1
/-- The way back from a name, without itself. -/
def restN (S : List Way) (f : Nm) : Nat → Nm → List Nm
  | 0, _ => []
  | n + 1, cur => if cur = f then [] else byOf S cur :: restN S f n (byOf S cur)
def pathS (S : List Way) (f g : Nm) : List Nm := (g :: restN S f S.length g).reverse
def pathR (L : List Bd) (f g : Nm) : List Nm × Bool := if g ∈ keysW (walkS L [f]) then (pathS (walkS L [f]) f g, true) else ([], false)
theorem rest_end (S : List Way) (f : Nm) (n : Nat) : restN S f n f = [] := by cases n <;> simp [restN]
theorem rest_step {L : List Bd} {f : Nm} {S : List Way} {i : Nat} (h : WalkOk L [f] S i) {cur b : Nm} {j n : Nat} (hj : S[j]? = some (cur, b)) (hn : j ≤ n) (hne : cur ≠ f) :
    byOf S cur = b ∧ ∃ m k c, n = m + 1 ∧ k ≤ m ∧ S[k]? = some (b, c) ∧ restN S f n cur = b :: restN S f m b := by
  have hb := byOf_mem h.nodup (List.mem_of_getElem? hj)
  refine ⟨hb, ?_⟩
  rcases h.from_ j _ hj with ⟨h1, _⟩ | ⟨k, q, hk, hq, h1, _⟩
  · exact absurd (by simpa using h1) hne
  · obtain ⟨m, rfl⟩ : ∃ m, n = m + 1 := ⟨n - 1, by omega⟩
    obtain ⟨q1, q2⟩ := q
    have h1' : b = q1 := h1
    subst h1'
    refine ⟨m, k, q2, rfl, by omega, hq, ?_⟩
    simp only [restN, if_neg hne, hb]

theorem heap_store2 {w : World} {B : Nat} {x y x' y' : Value} {t : TypeId} (h : w.heap[B]? = some (.cells #[x, y] t (0, 0))) : ((w.setCell ⟨B, 0, none⟩ x').setCell ⟨B, 1, none⟩ y').heap[B]? = some (.cells #[x', y'] t (0, 0)) := by
  simp [World.setCell, Array.getElem?_modify, h]
theorem heap_store_other {w : World} {B k : Nat} {x' y' : Value} (hk : k ≠ B) : ((w.setCell ⟨B, 0, none⟩ x').setCell ⟨B, 1, none⟩ y').heap[k]? = w.heap[k]? :=
  (Below.heap_setCell _ ⟨B, 1, none⟩ _ k hk).trans (Below.heap_setCell _ ⟨B, 0, none⟩ _ k hk)
theorem look_has {S : List Way} {es : List MEnt} {x b : Nm} (hv : Vals es S) (hn : (keysW S).Nodup) (hx : (x, b) ∈ S) (c : Bool) : lookV x es (kv ⟨0, 0⟩) c = if c then .tuple #[kv b, .bool true] else kv b := by
  have hxk : x ∈ es.map (·.1) := by
    rw [hv.keys]
    exact List.mem_map.2 ⟨_, hx, rfl⟩
  obtain ⟨j, y, hfm, e, he, hek, hev⟩ := findM_some (es := es) (i := 0) (k := x) (List.mem_map.1 hxk)
  have h1 : (e.1, e.2.1) ∈ S.map (fun p => (p.1, kv p.2)) := by rw [← hv]; exact List.mem_map.2 ⟨e, he, rfl⟩
  obtain ⟨p, hp, hpe⟩ := List.mem_map.1 h1
  injection hpe with hp1 hp2
  have h2 : byOf S x = p.2 := byOf_mem hn (by rw [← hek, ← hp1]; exact hp)
  rw [byOf_mem hn hx] at h2
  unfold lookV
  rw [hfm, ← hev, ← hp2, ← h2]
theorem look_not {S : List Way} {es : List MEnt} {x : Nm} (hv : Vals es S) (hx : x ∉ keysW S) : lookV x es (kv ⟨0, 0⟩) true = .tuple #[kv ⟨0, 0⟩, .bool false] := by
  have hfn : findM x es 0 = none := findM_none fun e he hk => hx (by rw [← hv.keys]; exact List.mem_map.2 ⟨e, he, hk⟩)
  unfold lookV
  rw [hfn]
  rfl

/-- What Path hands back. -/
def PathP (w : World) (r : List Nm × Bool) (e : Ending) (w' : World) : Prop := (∃ v', e = .returned (.tuple #[v', .bool r.2]) ∧ Own NM 31 w.heap.size w' (fun k => w.heap.size ≤ k) v' r.1) ∧ Ext w w'

set_option maxRecDepth 100000 in
set_option maxHeartbeats 4000000 in
theorem path_calls (v : Value) (L : List Bd) (ok : Ok) (a b c d : Int) (w : World) (h : HeapOr w ok v L) (hf : NmOk ⟨a, b⟩) (ht : NmOk ⟨c, d⟩) (hU : (univ L [⟨a, b⟩]).length ≤ 2147483647) :
    Calls Tryd.prog 36 #[v, .agg #[.int .i64 a, .int .i64 b], .agg #[.int .i64 c, .int .i64 d]] w (PathP w (pathR L ⟨a, b⟩ ⟨c, d⟩)) := by
  have HH := Lib.hid h
  have HF := Lib.hid hf
  have HT := Lib.hid ht
  have HU := Lib.hid hU
  clear h hf ht hU
  obtain ⟨S, hS⟩ : ∃ S, S = walkS L [⟨a, b⟩] := ⟨_, rfl⟩
  have HWO := Lib.hid (hS ▸ walkS_ok L [⟨a, b⟩] : WalkOk L [⟨a, b⟩] S S.length)
  have HL := Lib.hid (HWO.out.len)
  have HS := Lib.hid hS
  clear hS
  go_enter Tryd.func36, Tryd.ntmps36
  go_wp2_with fail
  refine (walk_calls v L ok _ _ [⟨a, b⟩] _ (HH.out.ext (by repeat (first | with_reducible exact Ext.refl _ | assumption | refine Ext.alloc ?_ _ | refine Ext.drewN ?_ _ | refine Ext.drew ?_ | refine Ext.set ?_ (by simp <;> omega) _ _ | refine Ext.trans ?_ (by assumption)))) (nm_box_at (N := w.heap.size + 1 + 1) (by simp) HF.out) HU.out).mono ?_
  rintro e w3 ⟨lv, r, rfl, hrr, hown, ⟨es, ck, hm1, hm2⟩, hE⟩
  rw [← HS.out] at hown hm2
  have h0 := hE.heap ((((Ext.refl _).alloc _).alloc _).heap (heap_alloc_new w (.cells #[.int .i64 a, .int .i64 b] 31)))
  have h1 := hE.heap (((Ext.refl _).alloc _).heap (heap_alloc_new (w.alloc (.cells #[.int .i64 a, .int .i64 b] 31)) (.cells #[.int .i64 c, .int .i64 d] 31)))
  have hr2 : w.heap.size + 1 + 1 + 1 ≤ r := by simpa using hrr
  have hz3 : w.heap.size + 1 + 1 + 1 ≤ w3.heap.size := by have := hE.le; simpa using this
  have HNO := Lib.hid (nf_of hown).2
  have HE3 : Hid (Ext w w3) := Lib.hid (((((Ext.refl _).alloc _).alloc _).alloc _).trans hE)
  have HM := Lib.hid hm1
  have HV := Lib.hid hm2
  clear hown hm1 hm2 hE hrr
  simp only [World.size_alloc] at h0 h1
  have hb00 : w3.cell? ⟨w.heap.size, 0, none⟩ = some (.int .i64 a) := cell_of_row w3 w.heap.size 0 _ _ _ h0
  have hb01 : w3.cell? ⟨w.heap.size, 1, none⟩ = some (.int .i64 b) := cell_of_row w3 w.heap.size 1 _ _ _ h0
  have hb10 : w3.cell? ⟨w.heap.size + 1, 0, none⟩ = some (.int .i64 c) := cell_of_row w3 (w.heap.size + 1) 0 _ _ _ h1
  have hb11 : w3.cell? ⟨w.heap.size + 1, 1, none⟩ = some (.int .i64 d) := cell_of_row w3 (w.heap.size + 1) 1 _ _ _ h1
  have H0 := Lib.hid h0
  have H1 := Lib.hid h1
  clear h0 h1
  obtain ⟨B0, hB0⟩ : ∃ B0, B0 = w.heap.size := ⟨_, rfl⟩
  obtain ⟨B1, hB1⟩ : ∃ B1, B1 = w.heap.size + 1 := ⟨_, rfl⟩
  have HB := Lib.hid (And.intro hB0 hB1)
  have hsz : B0 < w3.heap.size ∧ B1 < w3.heap.size ∧ B0 ≠ B1 ∧ B0 ≠ r ∧ B1 ≠ r := by omega
  have HSZ := Lib.hid hsz
  have hlt0 : B0 < w3.heap.size := hsz.1
  have hlt1 : B1 < w3.heap.size := hsz.2.1
  simp only [← hB1] at hb10 hb11 H1 ⊢
  have h00 : w3.cell? ⟨B0, 0, none⟩ = some (.int .i64 a) := by rw [hB0]; exact hb00
  have h01 : w3.cell? ⟨B0, 1, none⟩ = some (.int .i64 b) := by rw [hB0]; exact hb01
  have HZ : Hid (w3.heap[B0]? = some (.cells #[.int .i64 a, .int .i64 b] 31 (0, 0))) := Lib.hid (by rw [hB0]; exact H0.out)
  clear hb00 hb01 H0
  rw [← hB0]
  clear hB0 hB1 hr2 hz3 hsz
  have hlook := lookup_run (w := w3) 101 31 Tryd.underlying101 (kv ⟨0, 0⟩) (fun _ => zero_name) ⟨c, d⟩ true HM.out
  by_cases hin : (⟨c, d⟩ : Nm) ∈ keysW S
  · obtain ⟨⟨p1, p2, p3⟩, hp, hpe⟩ := List.mem_map.1 hin
    have hpe' : p1 = ⟨c, d⟩ := hpe
    subst hpe'
    have HPR := Lib.hid (show pathR L ⟨a, b⟩ ⟨c, d⟩ = (pathS S ⟨a, b⟩ ⟨c, d⟩, true) by unfold pathR; rw [← HS.out, if_pos hin])
    rw [look_has HV.out HWO.out.nodup hp] at hlook
    simp only [kv, if_true] at hlook
    obtain ⟨j0, hj0, hj0'⟩ := List.getElem_of_mem hp
    have HP : Hid (S[j0]? = some (⟨c, d⟩, ⟨p2, p3⟩)) := Lib.hid (by rw [← hj0']; exact List.getElem?_eq_getElem hj0)
    clear hin hp hpe hj0'
    go_wp2_with fail
    have hO0 : Own NM 31 w3.heap.size ((w3.alloc (.cells #[.int .i64 p2, .int .i64 p3] 31)).alloc (.cells #[.int .i64 c, .int .i64 d] 31)) (fun k => w3.heap.size ≤ k) (.slice (some ⟨w3.heap.size + 1, 0, none⟩) 1 1) [⟨c, d⟩] :=
      Own.lit1 (ok := fun k => False) (N := w3.heap.size + 1) (by simp) (by omega) (d := NM) ⟨rfl, HT.out⟩ (fun k hk => hk.elim) (by omega)
    have hE4 : Ext w3 ((w3.alloc (.cells #[.int .i64 p2, .int .i64 p3] 31)).alloc (.cells #[.int .i64 c, .int .i64 d] 31)) := ((Ext.refl _).alloc _).alloc _
    generalize (w3.alloc (.cells #[.int .i64 p2, .int .i64 p3] 31)).alloc (.cells #[.int .i64 c, .int .i64 d] 31) = w4 at hO0 hE4 ⊢
    have HO0 := Lib.hid hO0
    have HE4 := Lib.hid hE4
    have HM4 := Lib.hid (show MapAt w4 r es ck from hE4.heap HM.out)
    have HZ4 := Lib.hid (hE4.heap HZ.out)
    have H14 := Lib.hid (hE4.heap H1.out)
    have HE5 := Lib.hid (HE3.out.trans hE4)
    clear hO0 hE4 h00 h01 hb10 hb11 hlook
    obtain ⟨T, hT⟩ : ∃ T, T = (⟨c, d⟩ : Nm) :: restN S ⟨a, b⟩ S.length ⟨c, d⟩ := ⟨_, rfl⟩
    have HTT := Lib.hid hT
    clear hT
    go_loopg [12] S.length (fun g s12 wr => ∃ (x0 x1 y0 y1 : Int) (j : Nat) (acc : List Nm), j ≤ g ∧ acc.length + g ≤ S.length + 1 ∧ Hid (S[j]? = some (⟨x0, x1⟩, ⟨y0, y1⟩)) ∧ Hid (acc ++ restN S ⟨a, b⟩ g ⟨x0, x1⟩ = T) ∧ Hid (Own NM 31 w3.heap.size wr (fun k => w3.heap.size ≤ k) s12 acc) ∧ Hid (wr.heap[B1]? = some (.cells #[.int .i64 x0, .int .i64 x1] 31 (0, 0))) ∧ Hid (wr.heap[B0]? = some (.cells #[.int .i64 a, .int .i64 b] 31 (0, 0))) ∧ Hid (MapAt wr r es ck) ∧ Hid (Ext w wr ∧ w3.heap.size ≤ wr.heap.size))
    case atStart => exact ⟨c, d, p2, p3, j0, [⟨c, d⟩], by omega, by simp; omega, HP, Lib.hid (by rw [HTT.out]; rfl), HO0, H14, HZ4, HM4, Lib.hid ⟨HE5.out, HE4.out.le⟩⟩
    case round =>
      obtain ⟨x0, x1, y0, y1, j, acc, hjg, hag, HJ, HR, HO, HB1, HB0, HMr, HE⟩ := hrel
      obtain ⟨gA, gc, rfl, _, _⟩ := HO.out.sl
      have h00 : wr.cell? ⟨B0, 0, none⟩ = some (.int .i64 a) := cell_of_row _ _ 0 _ _ _ HB0.out
      have h01 : wr.cell? ⟨B0, 1, none⟩ = some (.int .i64 b) := cell_of_row _ _ 1 _ _ _ HB0.out
      have h10 : wr.cell? ⟨B1, 0, none⟩ = some (.int .i64 x0) := cell_of_row _ _ 0 _ _ _ HB1.out
      have h11 : wr.cell? ⟨B1, 1, none⟩ = some (.int .i64 x1) := cell_of_row _ _ 1 _ _ _ HB1.out
      have f0 : wr.frozen? ⟨B1, 0, none⟩ = false := by simp [World.frozen?, HB1.out]
      have f1 : wr.frozen? ⟨B1, 1, none⟩ = false := by simp [World.frozen?, HB1.out]
      have hl0 : B0 < wr.heap.size := World.block_lt_of_cell? wr _ h00
      have hl1 : B1 < wr.heap.size := World.block_lt_of_cell? wr _ h10
      by_cases he : x0 = a ∧ x1 = b
      · obtain ⟨rfl, rfl⟩ := he
        have heq := fun d w => run_eq_nm d w x0 x1 x0 x1
        have heq' := fun d w => (heq d w).trans (by rw [show (x0 == x0 && x1 == x1) = true by simp])
        clear heq
        have HACC := Lib.hid (show acc = T by have h1 := HR.out; rw [rest_end, List.append_nil] at h1; exact h1)
        go_wp2_with fail
        refine (reverse_calls _ acc w wr HE.out.1 (own_down HE3.out.le ((nf_of HO.out).1.imp fun k hk => Nat.le_trans HE3.out.le hk))).mono ?_
        rintro e w6 ⟨rfl, ho6, hE6⟩
        have HO6 := Lib.hid ho6
        have HE6 := Lib.hid hE6
        clear ho6 hE6
        go_wp2_with fail
        go_ret2
        rw [HPR.out]
        refine ⟨⟨_, rfl, ?_⟩, HE6.out⟩
        have h2 : pathS S ⟨x0, x1⟩ ⟨c, d⟩ = acc.reverse := by rw [HACC.out, HTT.out]; rfl
        show Own NM _ _ _ _ _ (pathS S ⟨x0, x1⟩ ⟨c, d⟩)
        rw [h2]
        exact own_nf HO6.out fun x hx => (nf_of HO.out).2 x (List.mem_reverse.1 hx)
      · have hne : (⟨x0, x1⟩ : Nm) ≠ ⟨a, b⟩ := fun e => by injection e with e1 e2; exact he ⟨e1, e2⟩
        obtain ⟨_, m, k, ⟨z0, z1⟩, hgm, hkm, hSk, hrest⟩ := rest_step HWO.out HJ.out hjg hne
        have HSK := Lib.hid hSk
        have HRE : Hid ((acc ++ [⟨y0, y1⟩]) ++ restN S ⟨a, b⟩ m ⟨y0, y1⟩ = T) := Lib.hid (by rw [List.append_assoc, List.singleton_append, ← hrest]; exact HR.out)
        have HNy : Hid (NmOk ⟨y0, y1⟩) := Lib.hid (HNO.out _ (List.mem_map.2 ⟨_, List.mem_of_getElem? hSk, rfl⟩))
        have hB1s := HSZ.out
        have HOs : Hid (Own NM 31 w3.heap.size ((wr.setCell ⟨B1, 0, none⟩ (.int .i64 y0)).setCell ⟨B1, 1, none⟩ (.int .i64 y1)) (fun k => w3.heap.size ≤ k) (.slice gA acc.length gc) acc) := Lib.hid (HO.out.move fun k hk _ => ⟨hk, heap_store_other (by omega)⟩)
        have hne3 : w.heap.size ≤ B1 := by rw [HB.out.2]; omega
        have HN3 := Lib.hid hne3
        clear hSk hrest hB1s hne hne3
        have hlook := lookup_run (w := wr) 101 31 Tryd.underlying101 (kv ⟨0, 0⟩) (fun _ => zero_name) ⟨x0, x1⟩ false HMr.out
        rw [look_has HV.out HWO.out.nodup (List.mem_of_getElem? HJ.out)] at hlook
        simp only [kv] at hlook
        have heq := fun d w => run_eq_nm d w x0 x1 a b
        have heq' := fun d w => (heq d w).trans (by rw [show (x0 == a && x1 == b) = false by rw [Bool.eq_false_iff]; simpa using he])
        clear heq
        go_wp2_with (at_builtin; go_loud (refine wpList_append_mine (d := NM) (ok2 := fun k => w3.heap.size ≤ k) rfl (.tmp 36) (.tmp 38) 49 31 zNm 16 w3.heap.size rfl Tryd.underlying49 info_nm rfl (HOs.out.ext (by repeat (first | with_reducible exact Ext.refl _ | assumption | refine Ext.alloc ?_ _ | refine Ext.drewN ?_ _ | refine Ext.drew ?_ | refine Ext.set ?_ (by simp <;> omega) _ _ | refine Ext.trans ?_ (by assumption)))) (nm_box_at (N := wr.heap.size) (by simp) HNy.out) rfl rfl (fun _ h => h) ?c2 (.inl fun _ _ _ _ _ _ h => h) ?c3 (by decide) ?c4 ?_); (case c2 => intro k hk; have := HE.out.2; simp at hk; omega); (case c3 => have := HL.out; have := HU.out; simp; omega); (case c4 => have := HE.out.2; simp; omega); intro v' w5 hown hg hat; have HOwn := Lib.hid hown; have HBel : Hid (Below w3.heap.size ((wr.setCell ⟨B1, 0, none⟩ (.int .i64 y0)).setCell ⟨B1, 1, none⟩ (.int .i64 y1)) w5) := Lib.hid (Below.grown (Below.alloc (Below.refl _ _) (by have := HE.out.2; simp; omega) _) hg (by have := HE.out.2; simp; omega) HOs.out.base_le); have HG5 : Hid (Ext w w5) := Lib.hid ((((HE.out.1.set HN3.out _ _).set HN3.out _ _).alloc _).grown hg (fun k hk => Nat.le_trans HE3.out.le (HOs.out.base_le k hk))); clear hown hg hat)
        go_roundg m
        case measure => omega
        case rel =>
          have hs := HSZ.out
          refine ⟨y0, y1, z0, z1, k, acc ++ [⟨y0, y1⟩], hkm, by simp; omega, HSK, HRE, HOwn, Lib.hid ((HBel.out.block _ hs.2.1).trans (heap_store2 HB1.out)), Lib.hid ((HBel.out.block _ hs.1).trans ((heap_store_other hs.2.2.1).trans HB0.out)), Lib.hid ?_, Lib.hid ⟨HG5.out, ?_⟩⟩
          · have hrl : r < w3.heap.size := (Array.getElem?_eq_some_iff.1 HM.out).1
            exact (HBel.out.block _ hrl).trans ((heap_store_other (Ne.symm hs.2.2.2.2)).trans HMr.out)
          · have := HBel.out.size
            have := HE.out.2
            simp at *
            omega
  · have HPR := Lib.hid (show pathR L ⟨a, b⟩ ⟨c, d⟩ = ([], false) by unfold pathR; rw [← HS.out, if_neg hin])
    rw [look_not HV.out hin] at hlook
    simp only [kv] at hlook
    clear hin
    go_wp2_with fail
    go_ret2
    rw [HPR.out]
    exact ⟨⟨_, rfl, Own.nil _ _ _ _ _⟩, HE3.out.trans (by repeat (first | with_reducible exact Ext.refl _ | assumption | refine Ext.alloc ?_ _ | refine Ext.drewN ?_ _ | refine Ext.drew ?_ | refine Ext.set ?_ (by simp <;> omega) _ _ | refine Ext.trans ?_ (by assumption)))⟩

end Go.Proofs.YtehljfnoicppnaaDoor
