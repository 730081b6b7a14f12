/- reach.walk, by its contract. Conditions: the heap is nil or one that the package made; at most 2^31 - 1 names can be come to. -/
import Derived.Test.YtehljfnoicppnaaDoorReachB
import Derived.Deep.RegionHeld3
import Derived.Deep.RegionWith
open Go Go.RowKit
set_option linter.unusedVariables false
namespace Go.Proofs.YtehljfnoicppnaaDoor

/-- What walk hands back. -/
def WalkP (w : World) (S : List Way) (e : Ending) (w' : World) : Prop :=
  ∃ lv r, e = .returned (.tuple #[lv, .map (some r)]) ∧ w.heap.size ≤ r ∧ Own NM 31 w.heap.size w' (fun k => w.heap.size ≤ k) lv (keysW S) ∧ (∃ es ck, MapAt w' r es ck ∧ Vals es S) ∧ Ext w w'
theorem rootsS_step {roots : List Nm} {S : List Way} {i : Nat} {v : Nm} (hx : roots[i]? = some v) : rootsS (roots.take (i + 1)) S = comeS (rootsS (roots.take i) S) v v := by
  unfold rootsS
  rw [List.take_add_one, hx]
  simp
theorem comeAll_step {vs : List Nm} {S : List Way} {b : Nm} {i : Nat} {v : Nm} (hx : vs[i]? = some v) : comeAll S b (vs.take (i + 1)) = comeS (comeAll S b (vs.take i)) v b := by
  unfold comeAll
  rw [List.take_add_one, hx]
  simp
theorem comeS_len (S : List Way) (v b : Nm) : (comeS S v b).length ≤ S.length + 1 := by
  unfold comeS
  split <;> simp
theorem rootsS_len : ∀ (rs : List Nm) (S : List Way), (rootsS rs S).length ≤ S.length + rs.length
  | [], S => by simp [rootsS]
  | v :: rs, S => by
    have h1 := rootsS_len rs (comeS S v v)
    have h2 := comeS_len S v v
    simp only [rootsS, List.foldl_cons, List.length_cons] at *
    omega

theorem setCell_id {w : World} {b : Nat} {v : Value} {t : TypeId} (h : w.heap[b]? = some (.cells #[v] t (0, 0))) : w.setCell ⟨b, 0, none⟩ v = w := by
  have hh : (w.setCell ⟨b, 0, none⟩ v).heap = w.heap := by
    apply Array.ext_getElem?
    intro k
    by_cases hk : k = b
    · subst hk
      rw [h]
      simp [World.setCell, Array.getElem?_modify, h]
    · exact Below.heap_setCell w ⟨b, 0, none⟩ v k hk
  have h2 : ∀ w' : World, w'.heap = w.heap → { w with heap := w'.heap } = w := fun w' e => by rw [e]
  exact h2 _ hh
theorem enters_come : ∀ args w, (callFunc 91 args).run Tryd.prog w = .ok (.enter 91 args) w := enters_of Tryd.func91 (by kernel_rfl) rfl

set_option maxRecDepth 100000 in
set_option maxHeartbeats 8000000 in
theorem walk_calls (v : Value) (L : List Bd) (ok okR : Ok) (rv : Value) (roots : List Nm) (w : World) (h : HeapOr w ok v L) (hr : Sl NM w okR rv roots) (hU : (univ L roots).length ≤ 2147483647) :
    Calls Tryd.prog 66 #[v, rv] w (WalkP w (walkS L roots)) := by
  have HH := Lib.hid h
  obtain ⟨rA, rc, rfl, _, hrd⟩ := hr
  have hm := hrd.1
  unfold maxLen at hm
  have HRD := Lib.hid hrd
  have hrl : roots.length ≤ 2147483647 := by
    have : roots.length ≤ (univ L roots).length := by unfold univ; simp
    omega
  have hmm := @run_makeMap Tryd.prog
  have eg : ∀ args w, (callFunc 91 args).run Tryd.prog w = .ok (.enter 91 args) w := enters_come
  clear h hrd
  go_enter Tryd.func66, Tryd.ntmps66
  go_wp2_with fail
  have hW0 : WkAt w (((w.alloc (.cells #[.slice none 0 0] 49)).alloc (.cells #[.map (some (w.heap.size + 1 + 1))] 101)).alloc (.map #[] 0)) w.heap.size (w.heap.size + 1) (w.heap.size + 1 + 1) (.slice none 0 0) [] := by
    refine ⟨Nat.le_refl _, by omega, by omega, ?_, Own.nil _ _ _ _ _, ?_, [], 0, ?_, rfl⟩
    · exact (((Ext.refl _).alloc _).alloc _).heap (heap_alloc_new w _)
    · have := heap_alloc_new (w.alloc (.cells #[.slice none 0 0] 49)) (.cells #[.map (some (w.heap.size + 1 + 1))] 101)
      exact ((Ext.refl _).alloc _).heap (by simpa using this)
    · have := heap_alloc_new ((w.alloc (.cells #[.slice none 0 0] 49)).alloc (.cells #[.map (some (w.heap.size + 1 + 1))] 101)) (.map #[] 0)
      unfold MapAt
      simpa using this
  have hE0 : Ext w (((w.alloc (.cells #[.slice none 0 0] 49)).alloc (.cells #[.map (some (w.heap.size + 1 + 1))] 101)).alloc (.map #[] 0)) := (((Ext.refl _).alloc _).alloc _).alloc _
  generalize ((w.alloc (.cells #[.slice none 0 0] 49)).alloc (.cells #[.map (some (w.heap.size + 1 + 1))] 101)).alloc (.map #[] 0) = W at hW0 hE0 ⊢
  obtain ⟨Bl, hBl⟩ : ∃ Bl, Bl = w.heap.size := ⟨_, rfl⟩
  obtain ⟨Bf, hBf⟩ : ∃ Bf, Bf = w.heap.size + 1 := ⟨_, rfl⟩
  obtain ⟨r, hr0⟩ : ∃ r, r = w.heap.size + 1 + 1 := ⟨_, rfl⟩
  rw [← hr0, ← hBf, ← hBl] at hW0
  rw [← hBf, ← hBl]
  have HW0 := Lib.hid hW0
  have HE0 := Lib.hid hE0
  have HBR := Lib.hid (show w.heap.size ≤ r by omega)
  clear hW0 hE0 hBl hBf hr0 hmm
  go_loopg [16] roots.length (fun g s16 wr => ∃ i : Nat, i ≤ roots.length ∧ roots.length - i ≤ g ∧ s16 = .int .i64 i ∧ Hid (∃ lv, WkAt w wr Bl Bf r lv (rootsS (roots.take i) [])) ∧ Hid (Ext w wr))
  case atStart => exact ⟨0, Nat.zero_le _, Nat.le_refl _, rfl, Lib.hid ⟨_, HW0.out⟩, HE0⟩
  case round =>
    obtain ⟨i, hi, hg, rfl, HK, HE⟩ := hrel
    obtain ⟨lv, hk⟩ := HK.out
    have HKK := Lib.hid hk
    clear hk
    by_cases hlt : i < roots.length
    · obtain ⟨⟨a, b⟩, hx⟩ : ∃ x, roots[i]? = some x := ⟨_, List.getElem?_eq_getElem hlt⟩
      obtain ⟨gb, go, rfl, _, _⟩ := HRD.out.some_ (by omega)
      obtain ⟨_, hnm, hc0, hc1⟩ := (HRD.out.ext HE.out).nm_at hx
      have HST := Lib.hid (rootsS_step (S := []) hx)
      have HNm := Lib.hid hnm
      have hl1 : (rootsS (roots.take i) []).length ≤ 2147483648 := by
        have := rootsS_len (roots.take i) []
        rw [List.length_take] at this
        simp at this
        omega
      have HC := Lib.hid (fun w1 (hE1 : Ext wr w1) => come_calls a b a b w w1 Bl Bf r lv _ (HKK.out.ext hE1) (HE.out.trans hE1) hnm hl1)
      clear hx hnm hl1
      go_wp2_with (refine (HC.out _ (by repeat (first | with_reducible exact Ext.refl _ | assumption | refine Ext.alloc ?_ _ | refine Ext.drewN ?_ _ | refine Ext.drew ?_ | refine Ext.set ?_ (by simp <;> omega) _ _ | refine Ext.trans ?_ (by assumption)))).mono ?_; rintro e w1 ⟨rfl, ⟨lv1, hk, _⟩, hE1⟩; have HK1 : Hid (∃ lv, WkAt w w1 Bl Bf r lv _) := Lib.hid ⟨lv1, hk⟩; have HE1 := Lib.hid hE1; clear hk hE1)
      go_roundg (roots.length - (i + 1))
      case measure => omega
      case rel =>
        refine ⟨i + 1, by omega, Nat.le_refl _, by go_num, ?_, HE1⟩
        rw [HST.out]
        exact HK1
    · obtain rfl : i = roots.length := by omega
      have HK0 : Hid (∃ lv, WkAt w wr Bl Bf r lv (rootsS roots [])) := Lib.hid (by have := HK.out; rwa [List.take_length] at this)
      clear HK HKK
      go_wp2_with fail
      obtain ⟨w3, rfl⟩ : ∃ w3 : World, w3 = wr := ⟨_, rfl⟩
      go_loopg [9] ((univ L roots).length + 1) (fun g s9 wr => ∃ (i : Nat) (S : List Way), i ≤ S.length ∧ (univ L roots).length + 1 - i ≤ g ∧ s9 = .int .i64 i ∧ Hid (WalkOk L roots S i) ∧ Hid (∃ m, (univ L roots).length < m + i ∧ walkS L roots = bfsN m L S i) ∧ Hid (∃ lv, WkAt w wr Bl Bf r lv S) ∧ Hid (Ext w wr))
      case atStart => exact ⟨0, _, Nat.zero_le _, by omega, rfl, Lib.hid walk_roots, Lib.hid ⟨_, by omega, rfl⟩, HK0, HE⟩
      case round =>
        obtain ⟨i, S, hi, hg, rfl, HOk, HB, HK, HE⟩ := hrel
        obtain ⟨lv, hk⟩ := HK.out
        have hl := cell_of_row wr Bl 0 _ _ _ hk.l
        have hbl : Bl < wr.heap.size := World.block_lt_of_cell? wr _ hl
        have hSl := HOk.out.len
        have hkl : (keysW S).length = S.length := by simp [keysW]
        obtain ⟨lA, lc, rfl, hlc, hlr⟩ := hk.own.sl
        simp only [List.getElem?_toArray, List.getElem?_cons_zero] at hl
        rw [hkl] at hl hlc
        have HKK := Lib.hid hk
        have HLR := Lib.hid hlr
        clear hk hlr
        by_cases hlt : i < S.length
        · obtain ⟨⟨⟨a, b⟩, by_⟩, hp⟩ : ∃ p, S[i]? = some p := ⟨_, List.getElem?_eq_getElem hlt⟩
          have hx : (keysW S)[i]? = some ⟨a, b⟩ := by simp [keysW, hp]
          obtain ⟨gb, go, rfl, _, _⟩ := HLR.out.some_ (by omega)
          obtain ⟨_, hnm, hc0, hc1⟩ := HLR.out.nm_at hx
          have HP := Lib.hid hp
          have HNm := Lib.hid hnm
          clear hx hp hnm
          go_wp2_with fail
          refine (reachNext_calls v L ok a b wr (HH.out.ext HE.out)).mono ?_
          rintro e w4 ⟨⟨nv, rfl, hnv⟩, hE4⟩
          obtain ⟨nA, nc, rfl, _, hnr⟩ := hnv.sl
          obtain ⟨nn, hnn⟩ : ∃ nn, nn = nextV L ⟨a, b⟩ := ⟨_, rfl⟩
          rw [← hnn] at hnv hnr ⊢
          have hnm := hnr.1
          unfold maxLen at hnm
          have hU2 : ∀ x ∈ nn, x ∈ univ L roots := fun x hx => nextV_univ (by rw [← hnn]; exact hx)
          have HNN := Lib.hid hnn
          have HNS : Hid (Rd NM w4 (fun k => wr.heap.size ≤ k ∧ k < w4.heap.size) nA nn) := Lib.hid (hnr.move fun k hk hlt => ⟨⟨hk, hlt⟩, rfl⟩)
          have HE4 := Lib.hid hE4
          have hblw := hbl
          have hrlw : r < wr.heap.size := by
            obtain ⟨es, ck, h1, _⟩ := HKK.out.m
            exact (Array.getElem?_eq_some_iff.1 h1).1
          obtain ⟨wq, hwq⟩ : ∃ wq : World, wq = wr := ⟨_, rfl⟩
          have HST : Hid (∃ lv, WkAt w w4 Bl Bf r lv (comeAll S ⟨a, b⟩ (nn.take 0)) ∧ (∀ k, lv.ownBlock = some k → ¬ (wq.heap.size ≤ k ∧ k < w4.heap.size)) ∧ Rd NM w4 (fun k => wq.heap.size ≤ k ∧ k < w4.heap.size) nA nn) := Lib.hid ⟨_, HKK.out.ext hE4, fun k hk => by have := HKK.out.own.blk_lt k hk; rw [hwq]; omega, by rw [hwq]; exact HNS.out⟩
          have HEW : Hid (Ext w w4 ∧ w4.heap.size ≤ w4.heap.size) := Lib.hid ⟨HE.out.trans hE4, Nat.le_refl _⟩
          have hS0 : ∀ k : Nat, ∃ T, comeAll S ⟨a, b⟩ (nn.take k) = S ++ T := fun k => comeAll_pre _ _ _
          have HS0 := Lib.hid hS0
          have HLen : Hid (∀ k : Nat, k ≤ nn.length → (comeAll S ⟨a, b⟩ (nn.take k)).length ≤ 2147483647) := Lib.hid (by
            intro k _
            have h1 : (keysW (comeAll S ⟨a, b⟩ (nn.take k))).length ≤ (univ L roots).length := nodup_le (comeAll_nodup HOk.out.nodup) (fun x hx => by
              rcases comeAll_keys.1 hx with h2 | h2
              · exact reach_univ (HOk.out.sound x h2)
              · exact hU2 x (List.mem_of_mem_take h2))
            have h2 : (keysW (comeAll S ⟨a, b⟩ (nn.take k))).length = (comeAll S ⟨a, b⟩ (nn.take k)).length := by simp [keysW]
            omega)
          have hbq : Bl < wq.heap.size ∧ r < wq.heap.size := by rw [hwq]; exact ⟨hblw, hrlw⟩
          have hq4 : wq.heap.size ≤ w4.heap.size := by rw [hwq]; exact hE4.le
          clear hnv hnr hnn hE4 hS0 hU2 hwq hblw hrlw hl hc0 hc1 hbl hlc
          go_wp2_with fail
          go_loopg [38] nn.length (fun g2 s38 wr => ∃ k : Nat, k ≤ nn.length ∧ nn.length - k ≤ g2 ∧ s38 = .int .i64 k ∧ Hid (∃ lv, WkAt w wr Bl Bf r lv (comeAll S ⟨a, b⟩ (nn.take k)) ∧ (∀ k, lv.ownBlock = some k → ¬ (wq.heap.size ≤ k ∧ k < w4.heap.size)) ∧ Rd NM wr (fun k => wq.heap.size ≤ k ∧ k < w4.heap.size) nA nn) ∧ Hid (Ext w wr ∧ w4.heap.size ≤ wr.heap.size))
          case atStart => exact ⟨0, Nat.zero_le _, Nat.le_refl _, rfl, HST, HEW⟩
          case round =>
            obtain ⟨k, hk, hg2, rfl, HK2, HE2⟩ := hrel
            by_cases hlt2 : k < nn.length
            · obtain ⟨lv2, hk2, hob, hrd2⟩ := HK2.out
              obtain ⟨⟨x0, x1⟩, hx⟩ : ∃ x, nn[k]? = some x := ⟨_, List.getElem?_eq_getElem hlt2⟩
              obtain ⟨nb, no_, rfl, _, _⟩ := hrd2.some_ (by omega)
              obtain ⟨hnbl, hxn, hd0, hd1⟩ := hrd2.nm_at hx
              have hl2 := cell_of_row wr Bl 0 _ _ _ hk2.l
              have hll2 : Bl < wr.heap.size := World.block_lt_of_cell? wr _ hl2
              obtain ⟨T, hT⟩ := HS0.out k
              have hlen := HLen.out k hk
              obtain ⟨S2, hS2⟩ : ∃ S2, S2 = comeAll S ⟨a, b⟩ (nn.take k) := ⟨_, rfl⟩
              rw [← hS2] at hk2 hT hlen
              have hp2 : (keysW S2)[i]? = some ⟨a, b⟩ := by
                rw [hT]
                have h1 : S[i]? = some (⟨a, b⟩, by_) := HP.out
                show ((S ++ T).map (·.1))[i]? = _
                rw [List.map_append, List.getElem?_append_left (by simpa using hlt), List.getElem?_map, h1]
                rfl
              have hkl2 : (keysW S2).length = S2.length := by simp [keysW]
              obtain ⟨l2A, l2c, rfl, hl2c, hl2r⟩ := hk2.own.sl
              simp only [List.getElem?_toArray, List.getElem?_cons_zero] at hl2
              have hi2 : i < S2.length := by rw [hT]; simp; omega
              obtain ⟨g2b, g2o, rfl, _, hg2b⟩ := hl2r.some_ (by omega)
              obtain ⟨_, _, he0, he1⟩ := hl2r.nm_at hp2
              rw [hkl2] at hl2 hl2c
              have HCA : Hid (∀ W, Ext wr W → W.cell? ⟨Bl, 0, none⟩ = some (.slice (some ⟨g2b, g2o, none⟩) S2.length l2c) ∧ W.cell? ⟨g2b, g2o + i * 2, none⟩ = some (.int .i64 a) ∧ W.cell? ⟨g2b, g2o + i * 2 + 1, none⟩ = some (.int .i64 b)) := Lib.hid fun W hE => ⟨hE.cell hl2, hE.cell he0, hE.cell he1⟩
              have HSt : Hid (comeAll S ⟨a, b⟩ (nn.take (k + 1)) = comeS S2 ⟨x0, x1⟩ ⟨a, b⟩) := Lib.hid (by rw [comeAll_step hx, ← hS2])
              have HC := Lib.hid (fun w1 (hE1 : Ext wr w1) => come_calls x0 x1 a b w w1 Bl Bf r _ S2 (hk2.ext hE1) (HE2.out.1.trans hE1) hxn (by omega))
              have HOB := Lib.hid hob
              have HRD2 := Lib.hid hrd2
              clear hk2 hob hrd2 hx hT hS2 hp2 hkl2 hl2r hl2c hl2 he0 he1 hxn HK2
              go_wp2_with fail
              have hEW2 : Ext wr (wr.alloc (.cells #[.int .i64 x0, .int .i64 x1] 31)) := (Ext.refl _).alloc _
              have hbx0 := cell_of_row _ _ 0 _ _ _ (heap_alloc_new wr (.cells #[.int .i64 x0, .int .i64 x1] 31))
              have hbx1 := cell_of_row _ _ 1 _ _ _ (heap_alloc_new wr (.cells #[.int .i64 x0, .int .i64 x1] 31))
              simp only [List.getElem?_toArray, List.getElem?_cons_zero, List.getElem?_cons_succ] at hbx0 hbx1
              generalize wr.alloc (.cells #[.int .i64 x0, .int .i64 x1] 31) = W2 at hEW2 hbx0 hbx1 ⊢
              obtain ⟨hl2, he0, he1⟩ := HCA.out _ hEW2
              have HEW2 := Lib.hid hEW2
              clear hEW2
              go_region_with (go_at_call 91; refine (HC.out _ (HEW2.out.trans (by repeat (first | with_reducible exact Ext.refl _ | assumption | refine Ext.alloc ?_ _ | refine Ext.drewN ?_ _ | refine Ext.drew ?_ | refine Ext.set ?_ (by simp <;> omega) _ _ | refine Ext.trans ?_ (by assumption))))).mono ?_; rintro e w5 ⟨rfl, hk5, hE5⟩; have HK5 := Lib.hid hk5; have HE5 := Lib.hid hE5; have hs5 : W2.heap.size = W2.heap.size := rfl; clear hk5 hE5)
              all_goals
                go_wp2_with fail
                go_roundg (nn.length - (k + 1))
                case measure => omega
                case rel =>
                  obtain ⟨lv5, hk5, hch⟩ := HK5.out
                  have hle2 := HEW2.out.le
                  have hle3 := HE2.out.2
                  refine ⟨k + 1, by omega, Nat.le_refl _, by go_num, Lib.hid ⟨lv5, by rw [HSt.out]; exact hk5, ?_, ?_⟩, Lib.hid ⟨HE5.out, ?_⟩⟩
                  · intro j hj
                    rcases hch.2.1 with h1 | h1
                    · rw [h1] at hj
                      exact HOB.out j hj
                    · have := h1 j hj
                      simp at this
                      omega
                  · refine HRD2.out.move fun j hj hjl => ⟨hj, ?_⟩
                    refine (hch.1 j (by simp; omega) (by omega) (by omega) (fun hb => HOB.out j hb hj)).trans (HEW2.out.block j hjl)
                  · have h1 := hch.2.2
                    simp at h1
                    omega
            · obtain rfl : k = nn.length := by omega
              go_wp2_with fail
              go_roundg ((univ L roots).length + 1 - (i + 1))
              case measure => omega
              case rel =>
                have hp : S[i]? = some (⟨a, b⟩, by_) := HP.out
                obtain ⟨T, hT⟩ := HS0.out nn.length
                obtain ⟨lv2, hk2, _, _⟩ := HK2.out
                rw [List.take_length] at hk2 hT
                refine ⟨i + 1, comeAll S ⟨a, b⟩ nn, by rw [hT]; simp; omega, Nat.le_refl _, by go_num, Lib.hid ?_, Lib.hid ?_, Lib.hid ⟨lv2, hk2⟩, Lib.hid HE2.out.1⟩
                · have := HOk.out.step hp
                  rw [HNN.out]
                  exact this
                · obtain ⟨m, hm1, hm2⟩ := HB.out
                  obtain ⟨m, rfl⟩ : ∃ m', m = m' + 1 := ⟨m - 1, by omega⟩
                  refine ⟨m, by omega, ?_⟩
                  rw [hm2, HNN.out]
                  simp only [bfsN, hp]
        · obtain rfl : i = S.length := by omega
          obtain ⟨es, ck, hmm, hvv⟩ := HKK.out.m
          have hf := cell_of_row wr Bf 0 _ _ _ HKK.out.f
          have hfz1 : wr.frozen? ⟨Bl, 0, none⟩ = false := by simp [World.frozen?, HKK.out.l]
          have hfz2 : wr.frozen? ⟨Bf, 0, none⟩ = false := by simp [World.frozen?, HKK.out.f]
          have hfl : Bf < wr.heap.size := World.block_lt_of_cell? wr _ hf
          simp only [List.getElem?_toArray, List.getElem?_cons_zero] at hf
          have HWS : Hid (walkS L roots = S) := Lib.hid (by
            obtain ⟨m, hm1, hm2⟩ := HB.out
            rw [hm2]
            cases m with
            | zero => rfl
            | succ m => simp [bfsN])
          clear hmm hvv
          go_wp2_with fail
          have HM0 := Lib.hid HKK.out.m
          have hlf : Bl ≠ Bf := fun e => by
            have h1 := HKK.out.f
            rw [← e, HKK.out.l] at h1
            injection h1 with h1
            injection h1 with _ h1
            cases h1
          have hfl2 : Bf ≠ Bl := Ne.symm hlf
          go_region_with (fail)
          all_goals
            go_wp2_with fail
            refine bodyPost_ret (v := .tuple #[.slice lA S.length lc, .map (some r)]) ?_ rfl ?_
            · simp [results, Tryd.results66, go_sem, *]
            · have e1 : wr.setCell ⟨Bl, 0, none⟩ (.slice lA S.length lc) = wr := setCell_id (by have := HKK.out.l; rwa [hkl] at this)
              have e2 : wr.setCell ⟨Bf, 0, none⟩ (.map (some r)) = wr := setCell_id HKK.out.f
              simp only [e1, e2]
              refine ⟨_, r, rfl, HBR.out, ?_, ?_, HE.out.trans (by repeat (first | with_reducible exact Ext.refl _ | assumption | refine Ext.alloc ?_ _ | refine Ext.drewN ?_ _ | refine Ext.drew ?_ | refine Ext.set ?_ (by simp <;> omega) _ _ | refine Ext.trans ?_ (by assumption)))⟩
              · rw [HWS.out]
                have := HKK.out.own
                rw [hkl] at this
                exact this.ext (by repeat (first | with_reducible exact Ext.refl _ | assumption | refine Ext.alloc ?_ _ | refine Ext.drewN ?_ _ | refine Ext.drew ?_ | refine Ext.set ?_ (by simp <;> omega) _ _ | refine Ext.trans ?_ (by assumption)))
              · obtain ⟨es, ck, h1, h2⟩ := HM0.out
                exact ⟨es, ck, (Ext.drew (Ext.refl wr)).heap h1, by rw [HWS.out]; exact h2⟩

end Go.Proofs.YtehljfnoicppnaaDoor
