/- slices.SortedFunc over maps.Keys by the order of names: a row of the call's own, the map's names ascending. Conditions: no more than 2^31 names. -/
import Derived.Test.YtehljfnoicppnaaDoorIterB
import Derived.Shelf.SlSortCmp.NoneTotal
import Derived.Ground.SlsfProg
open Go Go.RowKit Go.Shelf
set_option linter.unusedVariables false
namespace Go.Proofs.YtehljfnoicppnaaDoor
open Go.Sort Go.Lib

/-- The numbers of the sort's functions and types here (by program). -/
def sortNm_ren : Go.Shelf.Ren := ⟨fun | 6 => 78 | 15 => 100 | 14 => 99 | 28 => 126 | 29 => 127 | 20 => 118 | 21 => 119 | 22 => 120 | 23 => 121 | 24 => 122 | 25 => 123 | 26 => 124 | 27 => 125 | 46 => 131 | 47 => 132 | 48 => 133 | 49 => 134 | 50 => 135 | 57 => 136 | n => n, fun | 22 => 49 | 24 => 31 | 25 => 90 | 3 => 3 | 39 => 133 | 0 => 0 | 53 => 155 | 55 => 157 | 4 => 4 | 46 => 148 | 45 => 147 | 50 => 152 | 5 => 5 | 9 => 9 | 66 => 161 | 70 => 165 | 76 => 167 | 77 => 168 | n => n, fun | n => n⟩
theorem sortNm : Go.Proofs.SlLaysF0.n6 Tryd.prog sortNm_ren := {
  mixed := by kernel_rfl,
  f6 := ⟨Tryd.f78.name, by decide, Tryd.func78.trans (congrArg some (by kernel_rfl))⟩,
  f14 := ⟨Tryd.f99.name, by decide, Tryd.func99.trans (congrArg some (by kernel_rfl))⟩,
  f15 := Tryd.func100.trans (congrArg some (by kernel_rfl)),
  f20 := ⟨Tryd.f118.name, by decide, Tryd.func118.trans (congrArg some (by kernel_rfl))⟩,
  f21 := ⟨Tryd.f119.name, by decide, Tryd.func119.trans (congrArg some (by kernel_rfl))⟩,
  f22 := ⟨Tryd.f120.name, by decide, Tryd.func120.trans (congrArg some (by kernel_rfl))⟩,
  f23 := ⟨Tryd.f121.name, by decide, Tryd.func121.trans (congrArg some (by kernel_rfl))⟩,
  f24 := ⟨Tryd.f122.name, by decide, Tryd.func122.trans (congrArg some (by kernel_rfl))⟩,
  f25 := ⟨Tryd.f123.name, by decide, Tryd.func123.trans (congrArg some (by kernel_rfl))⟩,
  f26 := ⟨Tryd.f124.name, by decide, Tryd.func124.trans (congrArg some (by kernel_rfl))⟩,
  f27 := ⟨Tryd.f125.name, by decide, Tryd.func125.trans (congrArg some (by kernel_rfl))⟩,
  f28 := Tryd.func126.trans (congrArg some (by kernel_rfl)),
  f29 := Tryd.func127.trans (congrArg some (by kernel_rfl)),
  f46 := ⟨Tryd.f131.name, by decide, Tryd.func131.trans (congrArg some (by kernel_rfl))⟩,
  f47 := Tryd.func132.trans (congrArg some (by kernel_rfl)),
  f48 := Tryd.func133.trans (congrArg some (by kernel_rfl)),
  f49 := ⟨Tryd.f134.name, by decide, Tryd.func134.trans (congrArg some (by kernel_rfl))⟩,
  f50 := ⟨Tryd.f135.name, by decide, Tryd.func135.trans (congrArg some (by kernel_rfl))⟩,
  f57 := ⟨Tryd.f136.name, by decide, Tryd.func136.trans (congrArg some (by kernel_rfl))⟩,
  t0 := Tryd.underlying0,
  a0 := Tryd.isAgg0,
  z0 := Tryd.sizeOf0,
  v0 := Tryd.zeroValue0,
  t3 := Tryd.underlying3,
  a3 := Tryd.isAgg3,
  z3 := Tryd.sizeOf3,
  v3 := Tryd.zeroValue3,
  t4 := Tryd.underlying4,
  a4 := Tryd.isAgg4,
  z4 := Tryd.sizeOf4,
  v4 := Tryd.zeroValue4,
  t5 := Tryd.underlying5,
  a5 := Tryd.isAgg5,
  z5 := Tryd.sizeOf5,
  v5 := Tryd.zeroValue5,
  t9 := Tryd.underlying9,
  a9 := Tryd.isAgg9,
  z9 := Tryd.sizeOf9,
  v9 := Tryd.zeroValue9,
  t22 := Tryd.underlying49,
  a22 := Tryd.isAgg49,
  z22 := Tryd.sizeOf49,
  v22 := Tryd.zeroValue49,
  t25 := Tryd.underlying90,
  a25 := Tryd.isAgg90,
  z25 := Tryd.sizeOf90,
  v25 := Tryd.zeroValue90,
  t39 := Tryd.underlying133,
  a39 := Tryd.isAgg133,
  z39 := Tryd.sizeOf133,
  v39 := Tryd.zeroValue133,
  t45 := Tryd.underlying147,
  a45 := Tryd.isAgg147,
  z45 := Tryd.sizeOf147,
  v45 := Tryd.zeroValue147,
  t46 := Tryd.underlying148,
  a46 := Tryd.isAgg148,
  z46 := Tryd.sizeOf148,
  v46 := Tryd.zeroValue148,
  t50 := Tryd.underlying152,
  a50 := Tryd.isAgg152,
  z50 := Tryd.sizeOf152,
  v50 := Tryd.zeroValue152,
  t53 := Tryd.underlying155,
  a53 := Tryd.isAgg155,
  z53 := Tryd.sizeOf155,
  v53 := Tryd.zeroValue155,
  t55 := Tryd.underlying157,
  a55 := Tryd.isAgg157,
  z55 := Tryd.sizeOf157,
  v55 := Tryd.zeroValue157,
  t66 := Tryd.underlying161,
  a66 := Tryd.isAgg161,
  z66 := Tryd.sizeOf161,
  v66 := Tryd.zeroValue161,
  t70 := Tryd.underlying165,
  a70 := Tryd.isAgg165,
  z70 := Tryd.sizeOf165,
  v70 := Tryd.zeroValue165,
  t76 := Tryd.underlying167,
  a76 := Tryd.isAgg167,
  z76 := Tryd.sizeOf167,
  v76 := Tryd.zeroValue167,
  t77 := Tryd.underlying168,
  a77 := Tryd.isAgg168,
  z77 := Tryd.sizeOf168,
  v77 := Tryd.zeroValue168 }

instance : Inhabited Nm := ⟨⟨0, 0⟩⟩
/-- Only draws and new blocks. -/
def Gr (w w' : World) : Prop := ∃ q os, w' = grow (w.drewN q) os
theorem Gr.refl (w : World) : Gr w w := ⟨0, #[], by simp; rfl⟩
theorem Gr.alloc {a w : World} (h : Gr a w) (o : Obj) : Gr a (w.alloc o) := by
  obtain ⟨q, os, rfl⟩ := h
  exact ⟨q, os ++ #[o], by rw [alloc_eq_grow, grow_grow]⟩
theorem Gr.trans {a b c : World} (h : Gr a b) (k : Gr b c) : Gr a c := by
  obtain ⟨q, os, rfl⟩ := h
  obtain ⟨q2, os2, rfl⟩ := k
  refine ⟨q + q2, os ++ os2, ?_⟩
  rw [← grow_grow]
  simp only [World.drewN, grow, Nat.add_assoc]
theorem Gr.ext {a b : World} (h : Gr a b) : Ext a b := by
  obtain ⟨q, os, rfl⟩ := h
  exact ⟨rfl, rfl, rfl, by simp [World.drewN], fun k hk => by rw [heap_grow_old _ _ (by simpa [World.drewN] using hk)]; rfl⟩

set_option maxHeartbeats 400000 in
theorem less_gr (x0 x1 y0 y1 : Int) (w : World) :
    Calls Tryd.prog 64 #[.agg #[.int .i64 x0, .int .i64 x1], .agg #[.int .i64 y0, .int .i64 y1]] w fun e w' => e = .returned (.bool (lessB ⟨x0, x1⟩ ⟨y0, y1⟩)) ∧ Gr w w' := by
  go_enter Tryd.func64, Tryd.ntmps64
  go_wp2
  all_goals
    go_ret
    exact ⟨ret_bool (by rw [Bool.eq_iff_iff]; simp [lessB, *] <;> omega), ((Gr.refl _).alloc _).alloc _⟩

set_option maxRecDepth 100000 in
set_option maxHeartbeats 1000000 in
theorem order_gr (x0 x1 y0 y1 : Int) (w : World) :
    Calls Tryd.prog 50 #[.agg #[.int .i64 x0, .int .i64 x1], .agg #[.int .i64 y0, .int .i64 y1]] w fun e w' => e = .returned (.int .i64 (cmpS ⟨x0, x1⟩ ⟨y0, y1⟩)) ∧ Gr w w' := by
  have heq := fun d w => run_eq_nm d w x0 x1 y0 y1
  have hl := fun w1 => less_gr x0 x1 y0 y1 w1
  cases h : lessB ⟨x0, x1⟩ ⟨y0, y1⟩
  · rw [h] at hl
    have HL := Lib.hid hl
    clear hl
    by_cases he : x0 = y0 ∧ x1 = y1
    · have HV : cmpS ⟨x0, x1⟩ ⟨y0, y1⟩ = 0 := by unfold cmpS; rw [h, he.1, he.2]; simp
      have HV := Lib.hid HV
      rename_i HV'
      clear HV' h
      obtain ⟨rfl, rfl⟩ := he
      go_enter Tryd.func50, Tryd.ntmps50
      go_wp2_with (go_at_call 64; refine (HL.out _).mono ?_; rintro e w1 ⟨rfl, hw⟩; obtain ⟨hcc, hff⟩ := bcell hw.ext; have HW := Lib.hid hw; clear hw)
      go_ret
      exact ⟨ret_i64 HV.out.symm, (((Gr.refl _).alloc _).alloc _).trans HW.out⟩
    · have HV : cmpS ⟨x0, x1⟩ ⟨y0, y1⟩ = 1 := by simp [cmpS, h, he]
      have HV := Lib.hid HV
      rename_i HV'
      clear HV' h
      have hb : (x0 == y0 && x1 == y1) = false := by rw [Bool.eq_false_iff]; simpa using he
      have heq := fun d w => (run_eq_nm d w x0 x1 y0 y1).trans (by rw [hb])
      rename_i heq'
      clear heq' hb he
      go_enter Tryd.func50, Tryd.ntmps50
      go_wp2_with (go_at_call 64; refine (HL.out _).mono ?_; rintro e w1 ⟨rfl, hw⟩; obtain ⟨hcc, hff⟩ := bcell hw.ext; have HW := Lib.hid hw; clear hw)
      all_goals (go_ret; exact ⟨ret_i64 HV.out.symm, (((Gr.refl _).alloc _).alloc _).trans HW.out⟩)
  · rw [h] at hl
    have HL := Lib.hid hl
    have HV : cmpS ⟨x0, x1⟩ ⟨y0, y1⟩ = -1 := by simp [cmpS, h]
    have HV := Lib.hid HV
    rename_i HV'
    clear HV' hl h
    go_enter Tryd.func50, Tryd.ntmps50
    go_wp2_with (go_at_call 64; refine (HL.out _).mono ?_; rintro e w1 ⟨rfl, hw⟩; have HW := Lib.hid hw; clear hw)
    go_ret
    exact ⟨ret_i64 HV.out.symm, (((Gr.refl _).alloc _).alloc _).trans HW.out⟩

theorem cmp_lays (blk off size : Nat) (w : World) : CmpLays Tryd.prog 50 #[] nv 2 cmpS blk off size w := fun _ _ _ _ x y => order_gr x.a x.b y.a y.b _
theorem lt_cmp (x y : Nm) : ltOf cmpS x y = lessB x y := by
  unfold ltOf cmpS
  cases h : lessB x y
  · by_cases he : x = y <;> simp [he]
  · simp
theorem swo_cmp : SWO (ltOf cmpS) where
  irrefl x := by rw [lt_cmp, lessB_irrefl]
  trans x y z h1 h2 := by rw [lt_cmp] at *; exact lessB_trans h1 h2
  ntrans x y z h1 h2 := by
    rw [lt_cmp] at *
    simp only [lessB, decide_eq_false_iff_not] at *
    omega

theorem own_holds {e base : Nat} {w : World} {ok : Ok} {v : Value} {ss : List Nm} (h : Own NF e base w ok v ss) (hne : ss ≠ []) :
    ∃ g cap cur, v = .slice (some ⟨g, 0, none⟩) ss.length cap ∧ base ≤ g ∧ w.heap[g]? = some (.cells cur e (0, 0)) ∧ ss.length ≤ cap ∧ cap ≤ maxLen ∧ cur.size = cap * 2 ∧ HoldsK nv 2 w g 0 ss.toArray := by
  have hsl := h.sl
  obtain ⟨_, css, hl, _, ho⟩ := h
  have hpos : 0 < ss.length := List.length_pos_iff.2 hne
  rcases ho.2 with ⟨_, h0⟩ | ⟨g, cap, cur, rfl, hb, hg, h1, h2, h3, h4⟩
  · omega
  · refine ⟨g, cap, cur, rfl, hb, hg, h1, h2, h3, fun j hj => ⟨?_, by simp [World.frozen?, hg]⟩⟩
    have hj' : j < ss.length * 2 := by simpa using hj
    rw [get_flatK _ _ _ _ (by simpa using hj')]
    obtain ⟨A, c, hA, _, hr⟩ := hsl
    obtain ⟨b, o, rfl, _, _, hc⟩ := hr.2 hpos
    injection hA with hA
    injection hA with hA
    injection hA with hA1 hA2
    subst hA1 hA2
    have hi : j / 2 < ss.length := by omega
    obtain ⟨cs, hcs, hcell⟩ := hc (j / 2) ss[j / 2] (List.getElem?_eq_getElem hi)
    have hcs' : cs = nv ss[j / 2] := hcs
    subst hcs'
    have hm : j % 2 < 2 := Nat.mod_lt _ (by decide)
    have := hcell (j % 2) (nv ss[j / 2])[j % 2]! (by
      have hl2 : j % 2 < (nv ss[j / 2]).length := hm
      rw [List.getElem?_eq_getElem hl2]
      simp [hl2])
    rw [show 0 + j / 2 * NF.sz + j % 2 = 0 + j by show 0 + j / 2 * 2 + j % 2 = 0 + j; omega] at this
    rw [this]
    simp [hi]

theorem flat_list (ts : List Nm) : (flatK nv 2 ts.toArray).toList = (ts.map nv).flatten := by
  have hlen : ∀ cs ∈ ts.map nv, cs.length = 2 := by
    intro cs hcs
    obtain ⟨x, _, rfl⟩ := List.mem_map.1 hcs
    rfl
  apply List.ext_getElem?
  intro j
  by_cases hj : j < ts.length * 2
  · have hi : j / 2 < ts.length := by omega
    have hm : j % 2 < 2 := Nat.mod_lt _ (by decide)
    have h1 := flat_get hlen (j := j / 2) (i := j % 2) (cs := nv ts[j / 2]) (u := (nv ts[j / 2])[j % 2]!) (by simp [hi]) (by
      have hl2 : j % 2 < (nv ts[j / 2]).length := hm
      rw [List.getElem?_eq_getElem hl2]
      simp [hl2])
    rw [show j / 2 * 2 + j % 2 = j by omega] at h1
    rw [h1]
    have hs : j < (flatK nv 2 ts.toArray).size := by simpa using hj
    rw [Array.getElem?_toList, Array.getElem?_eq_getElem hs, ← getElem!_pos (flatK nv 2 ts.toArray) j hs, get_flatK _ _ _ _ (by simpa using hj)]
    simp [hi]
  · rw [List.getElem?_eq_none (by simp; omega), List.getElem?_eq_none (by rw [flat_len hlen]; simp; omega)]

/-- Behind the sort. -/
theorem own_sorted {e base g cap n : Nat} {w : World} {os : Array Obj} {cur : Array Value} {ss ts : List Nm} (hl : ts.length = ss.length) (hbase : base ≤ g) (hb : w.heap[g]? = some (.cells cur e (0, 0)))
    (h1 : ss.length ≤ cap) (h2 : cap ≤ maxLen) (h3 : cur.size = cap * 2) :
    Own NF e base (sortWorldK nv 2 w g 0 n ts.toArray os) (fun k => base ≤ k) (.slice (some ⟨g, 0, none⟩) ss.length cap) ts := by
  have hg : g < w.heap.size := (Array.getElem?_eq_some_iff.1 hb).1
  have hh : (sortWorldK nv 2 w g 0 n ts.toArray os).heap[g]? = some (.cells (putCells id 0 (flatK nv 2 ts.toArray) cur) e (0, 0)) := by
    unfold sortWorldK putRowK
    rw [heap_grow_old _ _ (by simp [putRow, mapBlock, Sort.ahead]; exact hg)]
    simp [putRow, mapBlock, Sort.ahead, Array.getElem?_modify, hb, onCells]
  have htake : (putCells id 0 (flatK nv 2 ts.toArray) cur).toList.take (ts.length * 2) = (ts.map nv).flatten := by
    rw [← flat_list]
    apply List.ext_getElem?
    intro j
    by_cases hj : j < ts.length * 2
    · have hs : j < (flatK nv 2 ts.toArray).size := by simpa using hj
      have hc : j < cur.size := by rw [h3]; omega
      rw [List.getElem?_take_of_lt hj, Array.getElem?_toList, Array.getElem?_toList, Array.getElem?_eq_getElem hs]
      simp [putCells, hc, hj]
    · rw [List.getElem?_take_eq_none (by omega), List.getElem?_eq_none (by simp; omega)]
  have hfl : (ts.map nv).flatten.length = ss.length * NF.sz := by
    rw [flat_len (n := 2) (fun cs hcs => by obtain ⟨x, _, rfl⟩ := List.mem_map.1 hcs; rfl), List.length_map, hl]
    rfl
  refine ⟨?_, ts.map nv, by simp, ?_, by rw [hfl, hl], .inr ⟨g, cap, _, by rw [hl], hbase, hh, by omega, h2, by simp [putCells, h3]; rfl, ?_⟩⟩
  · intro k hk
    have : g = k := by simpa [Value.ownBlock] using hk
    subst this
    exact hbase
  · intro j x cs hx hcs
    simp [hx] at hcs
    exact hcs.symm
  · exact htake
theorem ext_sorted {g n : Nat} {w0 w : World} {os : Array Obj} {ts : Array Nm} (hE : Ext w0 w) (hg : w0.heap.size ≤ g) : Ext w0 (sortWorldK nv 2 w g 0 n ts os) := by
  refine ⟨hE.os, hE.tape, hE.output, ?_, fun k hk => ?_⟩
  · exact Nat.le_trans hE.le (size_sortWorldK_c nv 2 w g 0 n ts os)
  · have hkw : k < w.heap.size := Nat.lt_of_lt_of_le hk hE.le
    unfold sortWorldK putRowK
    rw [heap_grow_old _ _ (by simp [putRow, mapBlock, Sort.ahead]; exact hkw)]
    have : g ≠ k := by omega
    simp [putRow, mapBlock, Sort.ahead, Array.getElem?_modify, this]
    exact hE.block k hk

def leNm (x y : Nm) : Bool := !lessB y x
/-- What SortedFunc over Keys hands back. -/
def SortP (w : World) (es : List MEnt) (e : Ending) (w' : World) : Prop := (∃ v, e = .returned v ∧ Own NF 31 w.heap.size w' (fun k => w.heap.size ≤ k) v ((es.map (·.1)).mergeSort leNm)) ∧ Ext w w'

theorem perm_sort {xs ys : List Nm} (h : xs.Perm ys) : xs.mergeSort leNm = ys.mergeSort leNm := by
  have ht : ∀ a b c : Nm, leNm a b = true → leNm b c = true → leNm a c = true := by
    intro a b c h1 h2
    simp only [leNm, lessB, Bool.not_eq_true', decide_eq_false_iff_not] at *
    omega
  have htot : ∀ a b : Nm, (leNm a b || leNm b a) = true := by
    intro a b
    simp only [leNm, lessB, Bool.or_eq_true, Bool.not_eq_true', decide_eq_false_iff_not]
    omega
  have h1 := List.pairwise_mergeSort ht htot xs
  have h2 := List.pairwise_mergeSort ht htot ys
  refine List.Perm.eq_of_pairwise (fun a b _ _ hab hba => ?_) h1 h2 (((List.mergeSort_perm xs leNm).trans h).trans (List.mergeSort_perm ys leNm).symm)
  simp only [leNm, Bool.not_eq_true'] at hab hba
  exact lessB_tri hba hab

set_option maxRecDepth 100000 in
set_option maxHeartbeats 1000000 in
theorem collect_calls (Bm b clock : Nat) (es : List MEnt) (w : World) (hBm : w.cell? ⟨Bm, 0, none⟩ = some (.map (some b))) (hM : MapAt w b es clock) (hB : Births es clock) (hN : es.length ≤ 2147483648) :
    Calls Tryd.prog 77 #[.func (.func 79) #[] #[.pointer (some ⟨Bm, 0, none⟩)]] w
      fun e w' => ∃ v ss, e = .returned v ∧ ss.Perm (es.map (·.1)) ∧ Own NF 31 w.heap.size w' (fun k => w.heap.size ≤ k) v ss ∧ Ext w w' := by
  have hA := callsIn_wide.1 (appendSeq_in Bm b clock es w hBm hM hB hN 4 (Nat.le_refl _))
  have HA := Lib.hid hA
  clear hA hBm hM hB
  go_enter Tryd.func77, Tryd.ntmps77
  go_wp2_with (go_at_call 98; refine HA.out.mono ?_; rintro e w' ⟨v, ss, rfl, hS, ho, hE⟩; have HO := Lib.hid ho; have HE := Lib.hid hE; have HS := Lib.hid hS; clear ho hE hS)
  go_ret
  exact ⟨v, ss, rfl, HS.out, HO.out, HE.out⟩

set_option maxRecDepth 100000 in
set_option maxHeartbeats 1000000 in
theorem sortedFunc_calls (Bm b clock : Nat) (es : List MEnt) (w : World) (hBm : w.cell? ⟨Bm, 0, none⟩ = some (.map (some b))) (hM : MapAt w b es clock) (hB : Births es clock) (hN : es.length ≤ 2147483648) :
    Calls Tryd.prog 48 #[.func (.func 79) #[] #[.pointer (some ⟨Bm, 0, none⟩)], .func (.func 50) #[] #[]] w (SortP w es) := by
  have hC := collect_calls Bm b clock es w hBm hM hB hN
  have HC := Lib.hid hC
  clear hC hBm hM hB
  have eg : ∀ args w, (callFunc 50 args).run Tryd.prog w = .ok (.enter 50 args) w := enters_of Tryd.func50 (by kernel_rfl) rfl
  have EG := Lib.hid eg
  clear eg
  go_enter Tryd.func48, Tryd.ntmps48
  go_wp2_with (go_at_call 77; refine HC.out.mono ?_; rintro e w1 ⟨v, ss, rfl, hS, ho, hE⟩; have HO := Lib.hid ho; have HE := Lib.hid hE; have HS := Lib.hid hS; clear ho hE hS)
  have hlen : ss.length = es.length := by have := HS.out.length_eq; simpa using this
  by_cases hne : ss = []
  · subst hne
    have hnil : (es.map (·.1)).mergeSort leNm = [] := by rw [← perm_sort HS.out]; simp
    obtain ⟨A, c, rfl, _, _⟩ := HO.out.sl
    have HN := Lib.hid (fun W => AnyF.slices_SortFunc_none (P := Tryd.prog) (ρ := sortNm_ren) { sortNm with } A c (.func (.func 50) #[] #[]) W)
    have HNL := Lib.hid hnil
    clear hnil hlen
    go_wp2_with (go_at_call 78; refine (HN.out _).mono ?_; rintro e w' ⟨rfl, rfl⟩)
    go_ret
    exact ⟨⟨_, rfl, by rw [HNL.out]; exact HO.out⟩, HE.out⟩
  · obtain ⟨g, cap, cur, rfl, hb, hg, h1, h2, h3, hH⟩ := own_holds HO.out hne
    have hs := AnyQ.slices_SortFunc_total sortNm 2 Tryd.isAgg31 Tryd.sizeOf31 nv (fun _ => rfl) (fun x v hv => by simp [nv] at hv; rcases hv with rfl | rfl <;> rfl) cmpS swo_cmp 50 #[] g 0 cap ss.toArray w1 EG.out (cmp_lays g 0 _ w1) hH (Array.getElem?_eq_some_iff.1 hg).1 (by simp; omega)
      (fun x y hx hy => by rw [lt_cmp] at hx hy; exact lessB_tri hx hy)
    have hle : (fun x y => !(ltOf cmpS) y x) = leNm := by funext x y; simp only [leNm, lt_cmp]
    simp only [hle] at hs
    change Calls Tryd.prog 78 _ _ _ at hs
    simp only [List.size_toArray] at hs
    have HSO := Lib.hid hs
    have hfin := fun n os => own_sorted (n := n) (os := os) (ts := ss.mergeSort leNm) (List.length_mergeSort ss) hb hg h1 h2 h3
    have hext := fun n os => ext_sorted (n := n) (os := os) (ts := (ss.mergeSort leNm).toArray) HE.out hb
    rw [perm_sort HS.out] at hfin hext HSO
    have HF := Lib.hid hfin
    have HX := Lib.hid hext
    clear hs hfin hext hH hle hg h1 h2 h3 hb hlen hne
    go_wp2_with (go_at_call 78; refine HSO.out.mono ?_; rintro e w' ⟨rfl, n, os, rfl⟩)
    go_ret
    exact ⟨⟨_, rfl, HF.out _ _⟩, HX.out _ _⟩

end Go.Proofs.YtehljfnoicppnaaDoor
