/- reach.Needed, Garbage and Cyclic, and the tests of rows of names, each by its contract. Conditions: the heap is nil or one that the package made; at most 2^31 - 1 names can be come to. -/
import Derived.Test.YtehljfnoicppnaaDoorReachC
import Derived.Test.YtehljfnoicppnaaDoorReachA
import Derived.Test.YtehljfnoicppnaaDoorHeapE
import Derived.Test.YtehljfnoicppnaaDoorRefF
open Go Go.RowKit
set_option linter.unusedVariables false
namespace Go.Proofs.YtehljfnoicppnaaDoor

theorem nm_box_at {w : World} {a b : Int} {N : Nat} (hN : w.heap.size = N) (hn : NmOk ⟨a, b⟩) : Sl NM (w.alloc (.cells #[.int .i64 a, .int .i64 b] 31)) (fun k => False ∨ k = N) (.slice (some ⟨N, 0, none⟩) 1 1) [⟨a, b⟩] := by
  subst hN
  exact nm_box hn
/-- What Needed hands back. -/
def NeededP (w : World) (xs : List Nm) (e : Ending) (w' : World) : Prop := (∃ v', e = .returned v' ∧ Own NM 31 w.heap.size w' (fun k => w.heap.size ≤ k) v' xs) ∧ Ext w w'

set_option maxRecDepth 100000 in
set_option maxHeartbeats 1000000 in
theorem needed_calls (v : Value) (L : List Bd) (ok okR : Ok) (rv : Value) (roots : List Nm) (w : World) (h : HeapOr w ok v L) (hr : Sl NM w okR rv roots) (hU : (univ L roots).length ≤ 2147483647) :
    Calls Tryd.prog 33 #[v, rv] w (NeededP w (neededS L roots)) := by
  have HW := Lib.hid (walk_calls v L ok okR rv roots w h hr hU)
  have hok := walkS_ok L roots
  have hlen := hok.len
  have HN := Lib.hid hok.nodup
  have hkl : (keysW (walkS L roots)).length = (walkS L roots).length := by simp [keysW]
  clear h hr hok
  go_enter Tryd.func33, Tryd.ntmps33
  go_wp2_with fail
  refine HW.out.mono ?_
  rintro e w1 ⟨lv, r, rfl, _, hown, _, hE1⟩
  have HO := Lib.hid hown
  have HE1 := Lib.hid hE1
  clear hown hE1
  go_wp2_with fail
  refine (sorted_calls lv _ _ w1 HO.out.sl (by omega) HN.out).mono ?_
  rintro e w2 ⟨⟨v', rfl, hv⟩, hE2⟩
  have HV := Lib.hid hv
  have HE2 := Lib.hid hE2
  clear hv hE2
  go_wp2
  go_ret
  exact ⟨⟨_, rfl, own_down HE1.out.le (HV.out.imp fun k hk => Nat.le_trans HE1.out.le hk)⟩, HE1.out.trans HE2.out⟩

/-- What has a value and is not reached, ascending. -/
def garbageS (L : List Bd) (roots : List Nm) : List Nm := (L.filter fun b => !hasNm (keysW (walkS L roots)) b.v).map (·.v)
theorem garbage_step {L : List Bd} {ks : List Nm} {i : Nat} {b : Bd} (hx : L[i]? = some b) : ((L.take (i + 1)).filter fun b => !hasNm ks b.v).map (·.v) = ((L.take i).filter fun b => !hasNm ks b.v).map (·.v) ++ (if hasNm ks b.v then [] else [b.v]) := by
  rw [List.take_add_one, hx, List.filter_append, List.map_append]
  cases h : hasNm ks b.v <;> simp [h]

set_option maxRecDepth 100000 in
set_option maxHeartbeats 4000000 in
theorem garbage_calls (v : Value) (L : List Bd) (ok okR : Ok) (rv : Value) (roots : List Nm) (w : World) (h : HeapOr w ok v L) (hr : Sl NM w okR rv roots) (hU : (univ L roots).length ≤ 2147483647) (hL : L.length ≤ 2147483647) :
    Calls Tryd.prog 38 #[v, rv] w (NeededP w (garbageS L roots)) := by
  have HW := Lib.hid (walk_calls v L ok okR rv roots w h hr hU)
  have HH := Lib.hid h
  obtain ⟨S, hS⟩ : ∃ S, S = walkS L roots := ⟨_, rfl⟩
  have HS := Lib.hid hS
  clear h hr hU
  go_enter Tryd.func38, Tryd.ntmps38
  go_wp2_with fail
  refine HW.out.mono ?_
  rintro e w1 ⟨lv, r, rfl, hrr, hown, hm, hE1⟩
  rw [← hS] at hown hm
  obtain ⟨es, ck, hm1, hm2⟩ := hm
  have HM := Lib.hid hm1
  have HVl := Lib.hid hm2
  have HE1 := Lib.hid hE1
  clear hown hm1 hm2 hE1 hS
  go_wp2_with fail
  refine (bindings_calls v L ok w1 (HH.out.ext HE1.out) (by omega)).mono ?_
  rintro e w2 ⟨⟨bv, rfl, hb⟩, hE2⟩
  have HB := Lib.hid (OB.bd hb.sl)
  obtain ⟨bA, bc, rfl, _, _⟩ := hb.sl
  have HE2 := Lib.hid (HE1.out.trans hE2)
  have HM2 := Lib.hid (hE2.heap HM.out)
  clear hb hE2
  obtain ⟨bA', bc', hbe, _, hbr⟩ := HB.out
  injection hbe with hb1 _ hb3
  subst hb1 hb3
  have hbm := hbr.1
  unfold maxLen at hbm
  have HBR := Lib.hid hbr
  clear hbr
  go_wp2_with fail
  go_loopg [7, 21] L.length (fun g s7 s21 wr => ∃ i : Nat, i ≤ L.length ∧ L.length - i ≤ g ∧ s21 = .int .i64 i ∧ Hid (Own NM 31 w2.heap.size wr (fun k => w2.heap.size ≤ k) s7 (((L.take i).filter fun b => !hasNm (keysW S) b.v).map (·.v))) ∧ Hid (Ext w2 wr))
  case atStart => exact ⟨0, Nat.zero_le _, Nat.le_refl _, rfl, Lib.hid (Own.nil _ _ _ _ _), Lib.hid (Ext.refl _)⟩
  case round =>
    obtain ⟨i, hi, hg, rfl, HO, HE⟩ := hrel
    obtain ⟨G, hG⟩ : ∃ G, G = ((L.take i).filter fun b => !hasNm (keysW S) b.v).map (·.v) := ⟨_, rfl⟩
    have hGl : G.length ≤ 2147483647 := by
      have h1 := List.length_filter_le (fun b : Bd => !hasNm (keysW S) b.v) (L.take i)
      rw [List.length_take] at h1
      rw [hG, List.length_map]
      omega
    rw [← hG] at HO
    have HGG := Lib.hid hG
    obtain ⟨gA, gc, rfl, _, _⟩ := HO.out.sl
    clear hG
    by_cases hlt : i < L.length
    · obtain ⟨⟨⟨a, b⟩, t⟩, hx⟩ : ∃ x, L[i]? = some x := ⟨_, List.getElem?_eq_getElem hlt⟩
      obtain ⟨lb, lo, rfl, _, _⟩ := HBR.out.some_ (by omega)
      obtain ⟨_, _, hnm, hc0, hc1, u, hc2, hu⟩ := (HBR.out.ext HE.out).bd_at hx
      obtain ⟨uA, uc, rfl, _, _⟩ := hu
      have HST := Lib.hid (garbage_step (ks := keysW S) hx)
      have HNm := Lib.hid hnm
      have hlook := lookup_run (w := wr.alloc (.cells #[.int .i64 a, .int .i64 b, .slice uA t.length uc] 33)) 101 31 Tryd.underlying101 (kv ⟨0, 0⟩) (fun _ => zero_name) ⟨a, b⟩ true ((HE.out.trans ((Ext.refl wr).alloc _)).heap HM2.out)
      clear hx hnm
      by_cases hin : (⟨a, b⟩ : Nm) ∈ keysW S
      · obtain ⟨j, y, hfm, e, he, hek, hev⟩ := findM_some (es := es) (i := 0) (k := ⟨a, b⟩) (by rw [← HVl.out.keys] at hin; exact List.mem_map.1 hin)
        have hvl : ∃ z : Nm, y = kv z := by
          have : (e.1, e.2.1) ∈ S.map (fun p => (p.1, kv p.2)) := by rw [← HVl.out]; exact List.mem_map.2 ⟨e, he, rfl⟩
          obtain ⟨p, _, hp⟩ := List.mem_map.1 this
          injection hp with _ hp
          exact ⟨p.2, by rw [← hev, ← hp]⟩
        obtain ⟨⟨y0, y1⟩, rfl⟩ := hvl
        have hlv : lookV ⟨a, b⟩ es (kv ⟨0, 0⟩) true = .tuple #[kv ⟨y0, y1⟩, .bool true] := by unfold lookV; rw [hfm]; rfl
        rw [hlv] at hlook
        simp only [kv] at hlook
        have HS2 : Hid (((L.take (i + 1)).filter fun b => !hasNm (keysW S) b.v).map (·.v) = G) := Lib.hid (by rw [HST.out, show hasNm (keysW S) ⟨a, b⟩ = true from decide_eq_true hin, HGG.out]; simp)
        clear hin hfm he hek hev hlv
        go_wp2_with fail
        go_roundg (L.length - (i + 1))
        case measure => omega
        case rel =>
          refine ⟨i + 1, by omega, Nat.le_refl _, by go_num, ?_, Lib.hid (HE.out.trans (by repeat (first | with_reducible exact Ext.refl _ | assumption | refine Ext.alloc ?_ _ | refine Ext.drewN ?_ _ | refine Ext.drew ?_ | refine Ext.set ?_ (by simp <;> omega) _ _ | refine Ext.trans ?_ (by assumption))))⟩
          rw [HS2.out]
          exact Lib.hid (HO.out.ext (by repeat (first | with_reducible exact Ext.refl _ | assumption | refine Ext.alloc ?_ _ | refine Ext.drewN ?_ _ | refine Ext.drew ?_ | refine Ext.set ?_ (by simp <;> omega) _ _ | refine Ext.trans ?_ (by assumption))))
      · have hfn : findM ⟨a, b⟩ es 0 = none := findM_none fun e he hk => hin (by rw [← HVl.out.keys]; exact List.mem_map.2 ⟨e, he, hk⟩)
        have hlv : lookV ⟨a, b⟩ es (kv ⟨0, 0⟩) true = .tuple #[kv ⟨0, 0⟩, .bool false] := by unfold lookV; rw [hfn]; rfl
        rw [hlv] at hlook
        simp only [kv] at hlook
        have HS2 : Hid (((L.take (i + 1)).filter fun b => !hasNm (keysW S) b.v).map (·.v) = G ++ [⟨a, b⟩]) := Lib.hid (by rw [HST.out, show hasNm (keysW S) ⟨a, b⟩ = false from decide_eq_false hin, HGG.out]; simp)
        clear hin hfn hlv
        go_wp2_with (at_builtin; go_loud (refine wpList_append_mine (d := NM) (ok2 := fun k => w2.heap.size ≤ k) rfl (.tmp 34) (.tmp 37) 49 31 zNm 16 w2.heap.size rfl Tryd.underlying49 info_nm rfl (HO.out.ext (by repeat (first | with_reducible exact Ext.refl _ | assumption | refine Ext.alloc ?_ _ | refine Ext.drewN ?_ _ | refine Ext.drew ?_ | refine Ext.set ?_ (by simp <;> omega) _ _ | refine Ext.trans ?_ (by assumption)))) (nm_box_at (N := wr.heap.size + 1 + 1) (by simp) HNm.out) rfl rfl (fun _ h => h) ?c2 (.inl fun _ _ _ _ _ _ h => h) ?c3 (by decide) ?c4 ?_); (case c2 => intro k hk; have := HE.out.le; simp at hk; omega); (case c3 => simp; omega); (case c4 => have := HE.out.le; simp; omega); intro v' w5 hown hg hat; have HOwn := Lib.hid hown; have HG5 : Hid (Ext w2 w5) := Lib.hid ((Ext.trans HE.out (by repeat (first | with_reducible exact Ext.refl _ | assumption | refine Ext.alloc ?_ _ | refine Ext.drewN ?_ _ | refine Ext.drew ?_ | refine Ext.set ?_ (by simp <;> omega) _ _ | refine Ext.trans ?_ (by assumption)))).grown hg HO.out.base_le); clear hown hg hat)
        go_roundg (L.length - (i + 1))
        case measure => omega
        case rel =>
          refine ⟨i + 1, by omega, Nat.le_refl _, by go_num, ?_, HG5⟩
          rw [HS2.out]
          exact HOwn
    · obtain rfl : i = L.length := by omega
      go_wp2_with fail
      go_ret
      have h1 := HO.out
      have h2 := HGG.out
      rw [List.take_length] at h2
      refine ⟨⟨_, rfl, ?_⟩, HE2.out.trans HE.out⟩
      unfold garbageS
      rw [← HS.out, ← h2]
      exact own_down HE2.out.le (h1.imp fun k hk => Nat.le_trans HE2.out.le hk)

end Go.Proofs.YtehljfnoicppnaaDoor
