/- Lemmas of the claim, joined: Sg S9 S10 S11 S12. No condition. -/
import Derived.Ground.SlsfProg
import Derived.Shelf.SlSortCmp.NoneTotal
import Derived.Test.YtgbamgijpgjmgaaProg
import Derived.Test.YtgbamgijpgjmgaaBD
import Derived.Test.YtgbamgijpgjmgaaBA
import Derived.Sort.OwnSortedInts
import Derived.Deep.RegionHeld3
import Derived.RegionTactic
import Derived.BigRegion
import Derived.Deep.DeepCutAuto
import Derived.Deep.CutBlock
/-
  DERIVED: THE SHELF's CONTRACTS AT THIS DUMP, IN PLAIN WORDS (tools/lay-plain.mjs out of 'YtgbamgijpgjmgaaSg.lean', which tools/lay-shelf.mjs wrote): THE SAME DECLARATIONS UNDER THE SAME NAMES: 'import', 'namespace', 'open', 'def', 'theorem' AND NOTHING ELSE: no command of the shelf's: FOR A HAND-IN. Each laying: the table of numbers ('.._ren') and one theorem, a field a fact of the dump's own or the kernel's comparison; each contract: ONE APPLICATION.
-/
namespace Go.Proofs
open Go.Shelf
def Try.sortFuncI_ren : Go.Shelf.Ren := ⟨fun | 6 => 76 | 15 => 97 | 14 => 96 | 28 => 117 | 29 => 118 | 20 => 109 | 21 => 110 | 22 => 111 | 23 => 112 | 24 => 113 | 25 => 114 | 26 => 115 | 27 => 116 | 46 => 127 | 47 => 128 | 48 => 129 | 49 => 130 | 50 => 131 | 57 => 135 | n => n, fun | 22 => 23 | 24 => 3 | 25 => 27 | 3 => 3 | 39 => 106 | 0 => 0 | 53 => 130 | 55 => 60 | 4 => 4 | 46 => 123 | 45 => 122 | 50 => 127 | 5 => 5 | 9 => 9 | 66 => 136 | 70 => 139 | 76 => 143 | 77 => 144 | n => n, fun | n => n⟩
theorem Try.sortFuncI : Go.Proofs.SlLaysF.n6 Try.prog Try.sortFuncI_ren := {
  mixed := by kernel_rfl
  f6 := ⟨Try.f76.name, by decide, Try.func76.trans (congrArg some (by kernel_rfl))⟩
  f14 := ⟨Try.f96.name, by decide, Try.func96.trans (congrArg some (by kernel_rfl))⟩
  f15 := Try.func97.trans (congrArg some (by kernel_rfl))
  f20 := ⟨Try.f109.name, by decide, Try.func109.trans (congrArg some (by kernel_rfl))⟩
  f21 := ⟨Try.f110.name, by decide, Try.func110.trans (congrArg some (by kernel_rfl))⟩
  f22 := ⟨Try.f111.name, by decide, Try.func111.trans (congrArg some (by kernel_rfl))⟩
  f23 := ⟨Try.f112.name, by decide, Try.func112.trans (congrArg some (by kernel_rfl))⟩
  f24 := ⟨Try.f113.name, by decide, Try.func113.trans (congrArg some (by kernel_rfl))⟩
  f25 := ⟨Try.f114.name, by decide, Try.func114.trans (congrArg some (by kernel_rfl))⟩
  f26 := ⟨Try.f115.name, by decide, Try.func115.trans (congrArg some (by kernel_rfl))⟩
  f27 := ⟨Try.f116.name, by decide, Try.func116.trans (congrArg some (by kernel_rfl))⟩
  f28 := Try.func117.trans (congrArg some (by kernel_rfl))
  f29 := Try.func118.trans (congrArg some (by kernel_rfl))
  f46 := ⟨Try.f127.name, by decide, Try.func127.trans (congrArg some (by kernel_rfl))⟩
  f47 := Try.func128.trans (congrArg some (by kernel_rfl))
  f48 := Try.func129.trans (congrArg some (by kernel_rfl))
  f49 := ⟨Try.f130.name, by decide, Try.func130.trans (congrArg some (by kernel_rfl))⟩
  f50 := ⟨Try.f131.name, by decide, Try.func131.trans (congrArg some (by kernel_rfl))⟩
  f57 := ⟨Try.f135.name, by decide, Try.func135.trans (congrArg some (by kernel_rfl))⟩
  t0 := Try.underlying0
  a0 := Try.isAgg0
  z0 := Try.sizeOf0
  v0 := Try.zeroValue0
  t3 := Try.underlying3
  a3 := Try.isAgg3
  z3 := Try.sizeOf3
  v3 := Try.zeroValue3
  t4 := Try.underlying4
  a4 := Try.isAgg4
  z4 := Try.sizeOf4
  v4 := Try.zeroValue4
  t5 := Try.underlying5
  a5 := Try.isAgg5
  z5 := Try.sizeOf5
  v5 := Try.zeroValue5
  t9 := Try.underlying9
  a9 := Try.isAgg9
  z9 := Try.sizeOf9
  v9 := Try.zeroValue9
  t22 := Try.underlying23
  a22 := Try.isAgg23
  z22 := Try.sizeOf23
  v22 := Try.zeroValue23
  a24 := Try.isAgg3
  z24 := Try.sizeOf3
  t25 := Try.underlying27
  a25 := Try.isAgg27
  z25 := Try.sizeOf27
  v25 := Try.zeroValue27
  t39 := Try.underlying106
  a39 := Try.isAgg106
  z39 := Try.sizeOf106
  v39 := Try.zeroValue106
  t45 := Try.underlying122
  a45 := Try.isAgg122
  z45 := Try.sizeOf122
  v45 := Try.zeroValue122
  t46 := Try.underlying123
  a46 := Try.isAgg123
  z46 := Try.sizeOf123
  v46 := Try.zeroValue123
  t50 := Try.underlying127
  a50 := Try.isAgg127
  z50 := Try.sizeOf127
  v50 := Try.zeroValue127
  t53 := Try.underlying130
  a53 := Try.isAgg130
  z53 := Try.sizeOf130
  v53 := Try.zeroValue130
  t55 := Try.underlying60
  a55 := Try.isAgg60
  z55 := Try.sizeOf60
  v55 := Try.zeroValue60
  t66 := Try.underlying136
  a66 := Try.isAgg136
  z66 := Try.sizeOf136
  v66 := Try.zeroValue136
  t70 := Try.underlying139
  a70 := Try.isAgg139
  z70 := Try.sizeOf139
  v70 := Try.zeroValue139
  t76 := Try.underlying143
  a76 := Try.isAgg143
  z76 := Try.sizeOf143
  v76 := Try.zeroValue143
  t77 := Try.underlying144
  a77 := Try.isAgg144
  z77 := Try.sizeOf144
  v77 := Try.zeroValue144 }
end Go.Proofs
/- The comparison that Split sorts by, and the sort. -/
namespace Go.Proofs.Ytgbamgijpgjmgaa
open Go.RowKit Go.Sort

def fcmp (rs : List Int) (x y : Nat) : Int := orI (cmpI (rs.getD y 0) (rs.getD x 0)) (cmpI x y)

set_option maxHeartbeats 2000000 in
set_option maxRecDepth 100000 in
theorem splitLess_c (B g n c x y : Nat) (rs : List Int) (W : World) (hB : W.cell? ⟨B, 0, none⟩ = some (.slice (some ⟨g, 0, none⟩) n c)) (hr : Nums .u64 W (some ⟨g, 0, none⟩) n c rs) (hx : x < n) (hy : y < n) :
    Calls Try.prog 77 #[.int .i64 x, .int .i64 y, .pointer (some ⟨B, 0, none⟩)] W fun e w' => e = .returned (.int .i64 (fcmp rs x y)) ∧ ∃ q o, w' = (W.drewN q).alloc o := by
  have hn := hr.n63
  obtain ⟨b1, o1, rx, e1, _, hrx, _, hcx⟩ := hr.get hx
  obtain ⟨b2, o2, ry, e2, _, hry, _, hcy⟩ := hr.get hy
  injection e1 with e1; injection e1 with e1 e1'; subst e1 e1'
  injection e2 with e2; injection e2 with e2 e2'; subst e2 e2'
  rw [Nat.zero_add] at hcx hcy
  have HF := Lib.hid (show fcmp rs x y = orI (cmpI ry rx) (cmpI x y) by unfold fcmp; rw [List.getD_eq_getElem?_getD, List.getD_eq_getElem?_getD, hrx, hry]; rfl)
  generalize fcmp rs x y = v at *
  clear hrx hry hr
  have hxI : (x : Int) < (n : Int) := by omega
  have hyI : (y : Int) < (n : Int) := by omega
  go_enter Try.func77, Try.ntmps77
  go_wp2_with fail
  go_region_held3 (fun w' => w'.cell? ⟨B, 0, none⟩ = some (.slice (some ⟨g, 0, none⟩) n c) ∧ w'.cell? ⟨g, x, none⟩ = some (.int .u64 rx) ∧ w'.cell? ⟨g, y, none⟩ = some (.int .u64 ry)) (go_keep)
    (first
      | (go_at_call 79; refine (cmpU64_c _ _ _).mono ?_; rintro e w' ⟨rfl, rfl⟩)
      | (go_at_call 80; refine (cmpI64_c _ _ _).mono ?_; rintro e w' ⟨rfl, rfl⟩)
      | (go_at_call 78; refine (cmpOr_c _ (cmpI ry rx) (cmpI x y) _ (by simp [World.cell?_alloc_new]) (by simp [World.cell?_alloc_new])).mono ?_; rintro e w' ⟨rfl, rfl⟩))
  all_goals go_wp2_with fail
  all_goals (go_ret; exact ⟨ret_int HF.out.symm, 1, _, rfl⟩)

theorem fcmp_lt (rs : List Int) (x y : Nat) : decide (fcmp rs x y < 0) = prec rs x y := by
  rw [Bool.eq_iff_iff, prec_iff, decide_eq_true_eq]
  unfold fcmp orI cmpI
  generalize rs.getD x 0 = a
  generalize rs.getD y 0 = b
  by_cases h1 : b < a
  · simp [h1]
  · by_cases h2 : a < b
    · rw [if_neg h1, if_pos h2, if_neg (by omega)]; omega
    · rw [if_neg h1, if_neg h2, if_pos rfl]
      have : a = b := by omega
      by_cases h3 : (x : Int) < y
      · rw [if_pos h3]; omega
      · rw [if_neg h3]; split <;> omega
theorem fcmp_swo {n : Nat} (rs : List Int) : SWO (ltOf fun x y : Fin n => fcmp rs x.val y.val) where
  irrefl x := by unfold ltOf; rw [fcmp_lt]; rw [Bool.eq_false_iff, ne_eq, prec_iff]; omega
  trans x y z h1 h2 := by unfold ltOf at *; rw [fcmp_lt, prec_iff] at *; omega
  ntrans x y z h1 h2 := by unfold ltOf at *; rw [fcmp_lt, Bool.eq_false_iff, ne_eq, prec_iff] at *; omega
theorem fcmp_tot {n : Nat} (rs : List Int) (x y : Fin n) (h1 : ltOf (fun x y : Fin n => fcmp rs x.val y.val) x y = false) (h2 : ltOf (fun x y : Fin n => fcmp rs x.val y.val) y x = false) : x = y := by
  unfold ltOf at *; rw [fcmp_lt, Bool.eq_false_iff, ne_eq, prec_iff] at *
  exact Fin.ext (by omega)
def encFin {n : Nat} (i : Fin n) : Value := .int .i64 (i.val : Int)
theorem putRow_fin {n : Nat} [Inhabited (Fin n)] (w : World) (blk off : Nat) (d : Array (Fin n)) : putRow encFin w blk off d = putRow (Value.int .i64) w blk off (d.map fun i => (i.val : Int)) := by
  unfold putRow
  congr 1
  funext c
  unfold putCells
  congr 1
  funext k x
  rw [Array.size_map]
  by_cases h : off ≤ k ∧ k < off + d.size
  · rw [if_pos h, if_pos h, getElem!_pos d (k - off) (by omega), getElem!_pos (d.map fun i => (i.val : Int)) (k - off) (by rw [Array.size_map]; omega)]
    rw [Array.getElem_map]; rfl
  · rw [if_neg h, if_neg h]
theorem sortWorld_fin {n : Nat} [Inhabited (Fin n)] (w : World) (blk off m : Nat) (d : Array (Fin n)) (os : Array Obj) : sortWorld encFin w blk off m d os = grow (putRow (Value.int .i64) (Sort.ahead w m) blk off (d.map fun i => (i.val : Int))) os := by
  unfold sortWorld
  rw [putRow_fin]
theorem ord_fin {n : Nat} {rs : List Int} (hn : rs.length = n) : ((List.finRange n).mergeSort fun x y => !ltOf (fun x y : Fin n => fcmp rs x.val y.val) y x).map (fun i => i.val) = ordL rs := by
  rw [ordL, hn]
  rw [List.map_mergeSort (f := fun i : Fin n => i.val) (s := fun i j => !prec rs j i) (fun a _ b _ => by unfold ltOf; rw [fcmp_lt])]
  congr 1
  apply List.ext_getElem (by simp)
  intro i h1 h2
  simp

theorem nums_grown {k : IntKind} {w w' : World} {g n c gs : Nat} {l : List Int} (h : Nums k w (some ⟨g, 0, none⟩) n c l) (hG : w.grownBy w' (some gs)) (hne : g ≠ gs) : Nums k w' (some ⟨g, 0, none⟩) n c l := by
  refine ⟨h.len, h.cap, h.mx, h.wf, fun hn => ?_⟩
  obtain ⟨b, o, e, h2, h3⟩ := h.at_ hn
  injection e with e; injection e with e e'; subst e e'
  refine ⟨g, 0, rfl, Nat.lt_of_lt_of_le h2 hG.size, fun i hi => ?_⟩
  rw [← h3 i hi]
  exact World.cell?_of_block (hG.block g h2 (fun e => hne (by injection e)))
theorem cell_grown {w w' : World} {g gs o : Nat} {v : Value} (h : w.cell? ⟨g, o, none⟩ = some v) (hG : w.grownBy w' (some gs)) (hne : g ≠ gs) : w'.cell? ⟨g, o, none⟩ = some v := by
  rw [← h]
  exact World.cell?_of_block (hG.block g (World.block_lt_of_cell? w _ h) (fun e => hne (by injection e)))

set_option maxHeartbeats 1000000 in
theorem splitSort_c (B g n c gs cs base : Nat) (rs : List Int) (w : World) (hn0 : 0 < n) (hn1 : n ≤ 1048576) (hB : w.cell? ⟨B, 0, none⟩ = some (.slice (some ⟨g, 0, none⟩) n c)) (hr : Nums .u64 w (some ⟨g, 0, none⟩) n c rs)
    (hO : Own .i64 3 w base (some ⟨gs, 0, none⟩) n cs ((List.range n).map fun i : Nat => (i : Int))) (h1 : B ≠ gs) (h2 : g ≠ gs) :
    Calls Try.prog 76 #[.slice (some ⟨gs, 0, none⟩) n cs, .func (.func 77) #[] #[.pointer (some ⟨B, 0, none⟩)]] w fun e w' =>
      e = .returned (.tuple #[]) ∧ Own .i64 3 w' base (some ⟨gs, 0, none⟩) n cs ((ordL rs).map fun i : Nat => (i : Int)) ∧ w.grownBy w' (some gs) := by
  haveI : Inhabited (Fin n) := ⟨⟨0, hn0⟩⟩
  have hlen := hr.len
  obtain ⟨a1, ⟨_, a2⟩, a3⟩ := hO
  rcases a2 with ⟨hv, _⟩ | ⟨gs', cap, cur, hv, hbase, hh, hnc, hcm, hsz, htk⟩
  · injection hv with e1; cases e1
  injection hv with e1 e2 e3
  injection e1 with e1
  injection e1 with e1
  subst e1 e3
  have hfr : (List.range n).map (fun i : Nat => (i : Int)) = (List.finRange n).map fun i => (i.val : Int) := by
    apply List.ext_getElem (by simp)
    intro i h1 h2
    simp
  have hH : Holds encFin w gs 0 (List.finRange n).toArray := by
    rw [hfr] at htk
    have hb := holds_of_blockI (ss := (List.finRange n).map fun i => (i.val : Int)) hh (by simpa using htk)
    intro j hj
    have hj' : j < n := by simpa using hj
    obtain ⟨x1, x2⟩ := hb j (by simpa using hj')
    refine ⟨x1.trans ?_, x2⟩
    rw [getElem!_pos ((List.finRange n).map fun i => (i.val : Int)).toArray j (by simpa using hj'), getElem!_pos (List.finRange n).toArray j hj]
    simp [encFin]
  have hlt : gs < w.heap.size := (Array.getElem?_eq_some_iff.1 hh).1
  have eg : ∀ args w, (callFunc 77 args).run Try.prog w = .ok (.enter 77 args) w := enters_of Try.func77 (by kernel_rfl) rfl
  have hcmp : CmpLays1 Try.prog 77 #[.pointer (some ⟨B, 0, none⟩)] encFin (fun x y : Fin n => fcmp rs x.val y.val) gs 0 (List.finRange n).toArray.size w := by
    intro m os dk _ x y
    have hG : w.grownBy (sortWorld encFin w gs 0 m dk os) (some gs) := by rw [sortWorld_fin]; exact grownBy_sortedI _
    refine (splitLess_c B g n c x.val y.val rs (sortWorld encFin w gs 0 m dk os) (cell_grown hB hG h1) (nums_grown hr hG h2) x.isLt y.isLt).mono ?_
    rintro e w' ⟨rfl, q, o, rfl⟩
    exact ⟨rfl, q, #[o], alloc_eq_grow _ _⟩
  have hS := Any.slices_SortFunc_total Try.sortFuncI encFin (fun _ => rfl) (fun x y : Fin n => fcmp rs x.val y.val) (fcmp_swo rs) 77 #[.pointer (some ⟨B, 0, none⟩)] gs 0 cs (List.finRange n).toArray w eg hcmp hH hlt (by simp; omega) (fcmp_tot rs)
  change Calls Try.prog 76 _ _ _ at hS
  have hsz' : (List.finRange n).toArray.size = n := by simp
  rw [hsz'] at hS
  refine hS.mono ?_
  rintro e w' ⟨rfl, m, os, rfl⟩
  have hmap : ((List.finRange n).toArray.toList.mergeSort fun x y => !ltOf (fun x y : Fin n => fcmp rs x.val y.val) y x).toArray.map (fun i => (i.val : Int)) = ((ordL rs).map fun i : Nat => (i : Int)).toArray := by
    rw [← ord_fin hlen]
    simp
  rw [sortWorld_fin, hmap]
  refine ⟨rfl, ⟨?_, ?_, ?_⟩, grownBy_sortedI _⟩
  · rw [List.length_map, ordL_len, hlen]
  · have := ownsRow_sortedI (w := w) (base := base) (g := gs) (cap := cs) (n := m) (e := 3) (os := os) (cur := cur) (ss := (List.range n).map fun i : Nat => (i : Int)) (ts := (ordL rs).map fun i : Nat => (i : Int)) (by simp [ordL_len, hlen]) hbase hh (by simpa using hnc) hcm hsz
    simpa using this
  · intro x hx
    simp only [List.mem_map] at hx
    obtain ⟨i, hi, rfl⟩ := hx
    have := ordL_mem.1 hi
    exact wf_of_i64 (by omega) (by omega)
end Go.Proofs.Ytgbamgijpgjmgaa
/- Contract of Split of package share. -/
namespace Go.Proofs.Ytgbamgijpgjmgaa
open Go.RowKit

theorem intT3 : IntT Try.prog 23 3 .i64 8 := ⟨Try.underlying23, by kernel_rfl, by omega⟩
theorem u64T3 : IntT Try.prog 90 60 .u64 8 := ⟨Try.underlying90, by kernel_rfl, by omega⟩

/-- the sum of the first k weights, all of them amounts, at most 2^60 -/
def SumAt (ws : List Int) (k : Nat) (s : Int) : Prop := s = (ws.take k).sum ∧ ∀ x ∈ ws.take k, okU x = true
theorem SumAt.start (ws : List Int) : SumAt ws 0 0 := ⟨by simp, by simp⟩
theorem SumAt.step {ws : List Int} {k : Nat} {s x : Int} (h : SumAt ws k s) (hx : ws[k]? = some x) (hok : okU x = true) : SumAt ws (k + 1) (s + x) := by
  obtain ⟨hk, rfl⟩ := List.getElem?_eq_some_iff.1 hx
  have e : ws.take (k + 1) = ws.take k ++ [ws[k]] := by rw [List.take_succ_eq_append_getElem hk]
  refine ⟨by rw [e, List.sum_append, h.1]; simp, fun y hy => ?_⟩
  rw [e] at hy
  rcases List.mem_append.1 hy with hy | hy
  · exact h.2 y hy
  · simp at hy; rw [hy]; exact hok
theorem SumAt.all {ws : List Int} {k : Nat} {s : Int} (h : SumAt ws k s) (hk : ws.length ≤ k) : s = ws.sum ∧ ws.all okU = true := by
  obtain ⟨h1, h2⟩ := h
  rw [List.take_of_length_le hk] at h1 h2
  exact ⟨h1, List.all_eq_true.2 h2⟩
theorem SumAt.le {ws : List Int} {k : Nat} {s : Int} (h : SumAt ws k s) (hall : ws.all okU = true) : s ≤ ws.sum := by
  rw [h.1]; exact sum_take_le (fun x hx => (okU_iff.1 (List.all_eq_true.1 hall x hx)).1) k
theorem splitOk_all {t : Int} {ws : List Int} (h : splitOk t ws = true) : ws.all okU = true := by
  simp only [splitOk, Bool.and_eq_true] at h; exact h.2.1
theorem splitOk_fin {t : Int} {ws : List Int} (ht : okU t = true) (h : splitOk t ws = false) (ha : ws.all okU = true) (hs : ws.sum ≤ 1152921504606846976) : ws.sum = 0 := by
  have h0 := sum_nonneg fun x hx => (okU_iff.1 (List.all_eq_true.1 ha x hx)).1
  simp only [splitOk, ht, ha, Bool.true_and, Bool.and_eq_false_iff, decide_eq_false_iff_not] at h
  omega

set_option maxHeartbeats 1000000 in
theorem split_no (t : Int) (A : Option Addr) (n c : Nat) (ws : List Int) (w : World) (h : Nums .i64 w A n c ws) (hno : splitOk t ws = false) :
    Calls Try.prog 50 #[.int .i64 t, .slice A n c] w fun e w' => e = .returned (.tuple #[.slice none 0 0, .int .i64 1]) ∧ w = w' := by
  have hm := h.n63
  have HN := Lib.hid hno
  clear hno
  cases ht : okU t
  · go_enter Try.func50, Try.ntmps50
    go_wp2_with (go_at_call 75; refine (isAmount_c _ _).mono ?_; rintro e w' ⟨rfl, rfl⟩)
    go_ret2
    exact ⟨rfl, rfl⟩
  · go_enter Try.func50, Try.ntmps50
    go_wp2_with (go_at_call 75; refine (isAmount_c _ _).mono ?_; rintro e w' ⟨rfl, rfl⟩)
    go_loop [6, 23] (fun ts ti => ∃ (k : Nat) (s : Int), k ≤ n ∧ ti = .int .i64 k ∧ ts = .int .i64 s ∧ 0 ≤ s ∧ s ≤ 1152921504606846976 ∧ Hid (SumAt ws k s)) (fun _ ti => n - (intOf ti).toNat)
    case atStart => exact ⟨0, 0, Nat.zero_le _, rfl, rfl, by omega, by omega, SumAt.start ws⟩
    case round =>
      obtain ⟨k, s, hk, rfl, rfl, s0, s1, hS⟩ := hrel
      by_cases hlt : k < n
      · obtain ⟨b, o, x, rfl, hb, hx, hwx, hck⟩ := h.get hlt
        cases hox : okU x
        · clear hx hwx
          go_wp2_with (go_at_call 75; refine (isAmount_c _ _).mono ?_; rintro e w' ⟨rfl, rfl⟩)
          go_ret2
          exact ⟨rfl, rfl⟩
        · have HS := Lib.hid (hS.out.step hx hox)
          obtain ⟨x0, x1⟩ := okU_iff.1 hox
          clear hx hwx
          by_cases hbig : 1152921504606846976 < s + x
          · go_wp2_with (go_at_call 75; refine (isAmount_c _ _).mono ?_; rintro e w' ⟨rfl, rfl⟩)
            go_ret2
            exact ⟨rfl, rfl⟩
          · go_wp2_with (go_at_call 75; refine (isAmount_c _ _).mono ?_; rintro e w' ⟨rfl, rfl⟩)
            go_round
            case rel => exact ⟨k + 1, s + x, by omega, by go_num, rfl, by omega, by omega, HS⟩
            case measure => simp [intOf]; omega
      · obtain ⟨f1, f2⟩ := hS.out.all (by rw [h.len]; omega)
        obtain rfl : s = 0 := by rw [f1]; exact splitOk_fin ht HN.out f2 (by rw [← f1]; exact s1)
        clear f1 f2
        go_wp2_with fail
        go_ret2
        exact ⟨rfl, rfl⟩

/-- what is laid at place k of a list that is filled from the left -/
def fillL (l : List Int) (n k : Nat) : List Int := l.take k ++ (List.replicate n 0).drop k
theorem fillL_start (l : List Int) (n : Nat) : fillL l n 0 = List.replicate n 0 := by simp [fillL]
theorem fillL_end {l : List Int} {n k : Nat} (h : l.length = n) (hk : n ≤ k) : fillL l n k = l := by
  unfold fillL
  rw [List.take_of_length_le (by omega), List.drop_eq_nil_of_le (by simp; omega), List.append_nil]
theorem fillL_set {l : List Int} {n k : Nat} {x : Int} (h : l.length = n) (hx : l[k]? = some x) : (fillL l n k).set k x = fillL l n (k + 1) := by
  obtain ⟨hk, rfl⟩ := List.getElem?_eq_some_iff.1 hx
  unfold fillL
  have e0 : (List.replicate n (0 : Int))[k]? = some 0 := by rw [List.getElem?_replicate, if_pos (by omega)]
  rw [mid_set (by rw [List.length_take]; omega) e0, ← List.take_succ_eq_append_getElem hk]

theorem Own.keptN {k : IntKind} {T : TypeId} {w w' : World} {base g gs n c : Nat} {l : List Int} (h : Own k T w base (some ⟨g, 0, none⟩) n c l) (hG : w.grownBy w' (some gs)) (hne : g ≠ gs) : Own k T w' base (some ⟨g, 0, none⟩) n c l :=
  ⟨h.1, World.ownsRow.kept h.2.1 hG (.inr (fun e => hne (by simpa [Value.ownBlock] using e))), h.2.2⟩
theorem grown_set (w : World) (g i : Nat) (v : Value) : w.grownBy (w.setCell ⟨g, i, none⟩ v) (some g) :=
  ⟨rfl, rfl, rfl, by simp, fun b _ hne => Below.heap_setCell w ⟨g, i, none⟩ v b (fun e => hne (by rw [e]))⟩

theorem quos_le {t : Int} {ws : List Int} (h : SplitPre t ws) : ∀ x ∈ quos t ws.sum ws, 0 ≤ x ∧ x ≤ t := by
  intro x hx
  refine ⟨quos_nonneg h.t0 h.s0 (fun x hx => (h.w0 x hx).1) x hx, ?_⟩
  simp only [quos, List.mem_map] at hx
  obtain ⟨y, hy, rfl⟩ := hx
  exact part_le h.t0 (le_sum (fun x hx => (h.w0 x hx).1) hy) h.s0
theorem bump_le {l : List Int} {t : Int} (h : ∀ x ∈ l, 0 ≤ x ∧ x ≤ t) {is : List Nat} (hn : is.Nodup) {i : Nat} {y : Int} (hy : (bump l is)[i]? = some y) : 0 ≤ y ∧ y ≤ t + 1 := by
  have hi : i < l.length := by
    obtain ⟨hk, _⟩ := List.getElem?_eq_some_iff.1 hy
    rwa [bump_len] at hk
  have e := bump_get l is hn i hi
  rw [List.getD_eq_getElem?_getD, hy] at e
  have := h _ (getD_mem hi)
  simp at e
  split at e <;> (simp only [List.getD_eq_getElem?_getD] at this; omega)
theorem bump_step {l : List Int} {is : List Nat} {k i : Nat} {y : Int} (hi : is[k]? = some i) (hy : (bump l (is.take k))[i]? = some y) : (bump l (is.take k)).set i (y + 1) = bump l (is.take (k + 1)) := by
  obtain ⟨hk, rfl⟩ := List.getElem?_eq_some_iff.1 hi
  rw [List.take_succ_eq_append_getElem hk, bump_snoc, List.getD_eq_getElem?_getD, hy]; rfl

set_option maxHeartbeats 4000000 in
set_option maxRecDepth 100000 in
theorem split_yes (t : Int) (A : Option Addr) (n c : Nat) (ws : List Int) (w : World) (h : Nums .i64 w A n c ws) (hok : splitOk t ws = true) (hn : n ≤ 1048576) :
    Calls Try.prog 50 #[.int .i64 t, .slice A n c] w (RetOwnErr .i64 3 w (splitL t ws, 0)) := by
  have hm := h.n63
  have hpre := splitPre_of hok
  have hall := splitOk_all hok
  have ht : okU t = true := okU_iff.2 ⟨hpre.t0, hpre.t1⟩
  obtain ⟨t0, t1⟩ := okU_iff.1 ht
  have s0 := hpre.s0
  have s1 := hpre.s1
  have hn0 : 0 < n := by
    rcases Nat.eq_zero_or_pos n with h0 | h0
    · have : ws = [] := List.eq_nil_of_length_eq_zero (by rw [h.len, h0])
      rw [this] at s0; simp at s0
    · exact h0
  have HP := Lib.hid hpre
  have HA := Lib.hid hall
  clear hok hpre hall
  go_enter Try.func50, Try.ntmps50
  go_wp2_with (go_at_call 75; refine (isAmount_c _ _).mono ?_; rintro e w' ⟨rfl, rfl⟩)
  go_loop [6, 23] (fun ts ti => ∃ (k : Nat) (s : Int), k ≤ n ∧ ti = .int .i64 k ∧ ts = .int .i64 s ∧ 0 ≤ s ∧ s ≤ 1152921504606846976 ∧ Hid (SumAt ws k s)) (fun _ ti => n - (intOf ti).toNat)
  case atStart => exact ⟨0, 0, Nat.zero_le _, rfl, rfl, by omega, by omega, SumAt.start ws⟩
  case round =>
    obtain ⟨k, s, hk, rfl, rfl, z0, z1, hS⟩ := hrel
    by_cases hlt : k < n
    · obtain ⟨b, o, x, rfl, hb, hx, hwx, hck⟩ := h.get hlt
      have hox : okU x = true := List.all_eq_true.1 HA.out x (List.mem_of_getElem? hx)
      have HS := Lib.hid (hS.out.step hx hox)
      obtain ⟨x0, x1⟩ := okU_iff.1 hox
      have hle : s + x ≤ 1152921504606846976 := by have := HS.out.le HA.out; omega
      clear hx hwx
      go_wp2_with (go_at_call 75; refine (isAmount_c _ _).mono ?_; rintro e w' ⟨rfl, rfl⟩)
      go_round
      case rel => exact ⟨k + 1, s + x, by omega, by go_num, rfl, by omega, by omega, HS⟩
      case measure => simp [intOf]; omega
    · obtain ⟨f1, _⟩ := hS.out.all (by rw [h.len]; omega)
      have hnI : ((n : Nat) : Int) ≤ 1048576 := by omega
      obtain ⟨S, hSe⟩ : ∃ S, ws.sum = S := ⟨_, rfl⟩
      rw [hSe] at f1 s0 s1
      subst f1
      have HSe := Lib.hid hSe
      have hs0 : (s == 0) = false := by simp; omega
      clear hSe hS
      have tok1 : True := trivial
      go_wp2_with (first
        | (at_make; have _t := tok1; refine wpList_mk intT3 _ rfl _ _ rfl _ _ _ _ n rfl rfl rfl rfl (by omega) ?_; intro w1 hO1 hE1 hz1; clear tok1 _t)
        | (at_make; refine wpList_mk u64T3 _ rfl _ _ rfl _ _ _ _ n rfl rfl rfl rfl (by omega) ?_; intro w2 hO2 hE2 hz2)
        | (at_make; refine wpList_mk intT3 _ rfl _ _ rfl _ _ _ _ n rfl rfl rfl rfl (by omega) ?_; intro w3 hO3 hE3 hz3))
      have hE2a := hE2.alloc (.cells #[.slice (some ⟨w.heap.size + 1, 0, none⟩) n n] 90)
      have hEw : E w w3 := (hE1.trans hE2a).trans hE3
      have O1 : Own .i64 3 w3 w.heap.size (some ⟨w.heap.size, 0, none⟩) n n (List.replicate n 0) := (hO1.e hE2a).e hE3
      have O2 : Own .u64 60 w3 w.heap.size (some ⟨w.heap.size + 1, 0, none⟩) n n (List.replicate n 0) := by
        rw [hz1] at hO2
        exact ((hO2.e ((E.refl _).alloc _)).e hE3).rebase (by omega)
      have O3 : Own .i64 3 w3 w.heap.size (some ⟨w.heap.size + 1 + 1 + 1, 0, none⟩) n n (List.replicate n 0) := by
        simp only [World.size_alloc, hz2, hz1] at hO3
        exact hO3.rebase (by omega)
      have hbox : w3.cell? ⟨w.heap.size + 1 + 1, 0, none⟩ = some (.slice (some ⟨w.heap.size + 1, 0, none⟩) n n) := by
        have hw2 : w2.heap.size = w.heap.size + 1 + 1 := by rw [hz2, hz1]
        rw [hE3.cell (by simp [hw2]), ← hw2]
        exact cell_new _ _ _
      clear hO1 hO2 hO3 hE1 hE2 hE3 hE2a hz1 hz2 hz3
      generalize hg3 : w.heap.size + 1 + 1 + 1 = g3 at *
      generalize hgB : w.heap.size + 1 + 1 = gB at *
      generalize hg2 : w.heap.size + 1 = g2 at *
      generalize hg1 : w.heap.size = g1 at *
      have d12 : g1 ≠ g2 := by omega
      have d1B : g1 ≠ gB := by omega
      have d13 : g1 ≠ g3 := by omega
      have d2B : g2 ≠ gB := by omega
      have d23 : g2 ≠ g3 := by omega
      have dB3 : gB ≠ g3 := by omega
      have l2 : g1 ≤ g2 := by omega
      have l3 : g1 ≤ g3 := by omega
      have HG1 := Lib.hid hg1
      clear hg1 hg2 hgB hg3
      have hql : (quos t s ws).length = n := by rw [quos_len, h.len]
      have hrl : (rems t s ws).length = n := by rw [rems_len, h.len]
      have HQL := Lib.hid hql
      have HRL := Lib.hid hrl
      have hLf := Lib.hid (left_facts (t := t) (ws := ws) HP.out.s0)
      have hLl := Lib.hid (left_le (t := t) (ws := ws) HP.out.s0)
      rw [HSe.out] at hLf hLl
      have HQ0 := Lib.hid (quos_nonneg (t := t) (S := s) t0 s0 (fun x hx => (HP.out.w0 x hx).1))
      clear hql hrl
      go_loopw [12, 50] (fun tl ti wr => ∃ (k : Nat) (L : Int), k ≤ n ∧ ti = .int .i64 k ∧ tl = .int .i64 L ∧ 0 ≤ L ∧ L ≤ t ∧ Hid (L = t - ((quos t s ws).take k).sum) ∧ Own .i64 3 wr g1 (some ⟨g1, 0, none⟩) n n (fillL (quos t s ws) n k) ∧ Own .u64 60 wr g1 (some ⟨g2, 0, none⟩) n n (fillL (rems t s ws) n k) ∧ Own .i64 3 wr g1 (some ⟨g3, 0, none⟩) n n (fillL ((List.range n).map fun i : Nat => (i : Int)) n k) ∧ wr.cell? ⟨gB, 0, none⟩ = some (.slice (some ⟨g2, 0, none⟩) n n) ∧ E w wr) (fun _ ti _ => n - (intOf ti).toNat)
      case atStart => exact ⟨0, t, Nat.zero_le _, rfl, rfl, t0, Int.le_refl _, show _ = _ by simp, by rw [fillL_start]; exact O1, by rw [fillL_start]; exact O2, by rw [fillL_start]; exact O3, hbox, hEw⟩
      case round =>
        clear O1 O2 O3 hbox hEw
        obtain ⟨j, L, hj, rfl, rfl, L0, L1, HL, O1, O2, O3, hbox, hE⟩ := hrel
        by_cases hjn : j < n
        · obtain ⟨b, o, x, hA, hb, hx, hwx, hck⟩ := (h.e hE).get hjn
          subst hA
          have hxm := List.mem_of_getElem? hx
          obtain ⟨x0, x1⟩ := HP.out.w0 x hxm
          have hxs : x ≤ s := by have := le_sum (fun y hy => (HP.out.w0 y hy).1) hxm; rwa [HSe.out] at this
          have hqle := part_le t0 hxs s0
          have hdok : divOk t x s = true := divOk_iff.2 ⟨⟨t0, t1⟩, ⟨x0, by omega⟩, s0, s1⟩
          have hfit : divFit t x s = true := by simp only [divFit, decide_eq_true_eq]; omega
          have hq : divQ t x s = t * x / s := by simp [divQ, hdok, hfit]
          have hr : divR t x s = t * x % s := by simp [divR, hdok, hfit]
          have hee : divE t x s = 0 := by simp [divE, hdok, hfit]
          have hq0 := Int.ediv_nonneg (Int.mul_nonneg t0 x0) (Int.le_of_lt s0)
          have hr0 := Int.emod_nonneg (t * x) (show s ≠ 0 by omega)
          have hr1 := Int.emod_lt_of_pos (t * x) s0
          have HD := Lib.hid (divide_c t x s wr)
          rw [hq, hr, hee] at HD
          have hqk : (quos t s ws)[j]? = some (t * x / s) := by simp [quos, hx]
          have hrk : (rems t s ws)[j]? = some (t * x % s) := by simp [rems, hx]
          have HFQ := Lib.hid (fillL_set HQL.out hqk)
          have HFR := Lib.hid (fillL_set HRL.out hrk)
          have HFO := Lib.hid (fillL_set (l := (List.range n).map fun i : Nat => (i : Int)) (n := n) (k := j) (x := (j : Int)) (by simp) (by rw [List.getElem?_map, List.getElem?_range hjn]; rfl))
          have HLs := Lib.hid (show L - t * x / s = t - ((quos t s ws).take (j + 1)).sum by
            obtain ⟨hk', e'⟩ := List.getElem?_eq_some_iff.1 hqk
            rw [List.take_succ_eq_append_getElem hk', List.sum_append, e', HL.out]; simp; omega)
          have hLn : 0 ≤ L - t * x / s := by
            have a1 := sum_take_le HQ0.out (j + 1)
            have a2 := hLf.out.1
            have a3 := HLs.out
            omega
          clear hx hwx hxm hdok hfit hq hr hee hqk hrk
          generalize t * x / s = q at *
          generalize t * x % s = r at *
          go_wp2_with fail
          refine HD.out.mono ?_
          rintro e w' ⟨rfl, hQ⟩
          replace O1 := O1.q hQ
          replace O2 := O2.q hQ
          replace O3 := O3.q hQ
          have hbx : w'.cell? ⟨gB, 0, none⟩ = some (.slice (some ⟨g2, 0, none⟩) n n) := (E.of_q hQ).cell (World.block_lt_of_cell? _ _ hbox) ▸ hbox
          replace hE := hE.q hQ
          obtain ⟨_, _, _, _, _, c1, f1⟩ := O1.getg hjn
          obtain ⟨_, _, _, _, _, c2, f2⟩ := O2.getg hjn
          obtain ⟨_, _, _, _, _, c3, f3⟩ := O3.getg hjn
          clear hbox hck
          have hjI : (j : Int) < (n : Int) := by omega
          go_wp2_with fail
          go_region
          go_wp2_with fail
          have G1 := grown_set w' g1 j (.int .i64 q)
          have G2 := grown_set (w'.setCell ⟨g1, j, none⟩ (.int .i64 q)) g2 j (.int .u64 r)
          have G3 := grown_set ((w'.setCell ⟨g1, j, none⟩ (.int .i64 q)).setCell ⟨g2, j, none⟩ (.int .u64 r)) g3 j (.int .i64 (j : Int))
          have P1 := ((O1.set j q (wf_of_i64 (by omega) (by omega))).keptN G2 d12).keptN G3 d13
          have P2 := ((O2.keptN G1 d12.symm).set j r (WalkArith.wf_u64 ⟨by omega, by omega⟩)).keptN G3 d23
          have P3 := ((O3.keptN G1 d13.symm).keptN G2 d23.symm).set j (j : Int) (wf_of_i64 (by omega) (by omega))
          have PB := cell_grown (cell_grown (cell_grown hbx G1 d1B.symm) G2 d2B.symm) G3 dB3
          rw [HFQ.out] at P1
          rw [HFR.out] at P2
          rw [HFO.out] at P3
          have hle1 : w.heap.size ≤ g1 := by rw [HG1.out]; exact Nat.le_refl _
          have PE := ((hE.setCell (p := ⟨g1, j, none⟩) hle1 (.int .i64 q)).setCell (p := ⟨g2, j, none⟩) (Nat.le_trans hle1 l2) (.int .u64 r)).setCell (p := ⟨g3, j, none⟩) (Nat.le_trans hle1 l3) (.int .i64 (j : Int))
          generalize ((w'.setCell ⟨g1, j, none⟩ (.int .i64 q)).setCell ⟨g2, j, none⟩ (.int .u64 r)).setCell ⟨g3, j, none⟩ (.int .i64 (j : Int)) = wz at *
          have Qd := (Q.refl wz).drew
          clear G1 G2 G3
          go_roundw
          case rel => exact ⟨j + 1, L - q, by omega, by go_num, rfl, hLn, by omega, HLs, P1.q Qd, P2.q Qd, P3.q Qd, PB, PE.q Qd⟩
          case measure => simp [intOf]; omega
        · rw [fillL_end HQL.out (by omega)] at O1
          rw [fillL_end HRL.out (by omega)] at O2
          rw [fillL_end (by simp) (by omega)] at O3
          have hLe : L = t - (quos t s ws).sum := by rw [HL.out, List.take_of_length_le (by rw [HQL.out]; omega)]
          have hLn : L.toNat = leftS t s ws := by rw [hLe]; rfl
          have hLN : L.toNat ≤ n := by rw [hLn, ← h.len]; exact hLl.out
          obtain ⟨M, hM⟩ : ∃ M : Nat, L = M := ⟨L.toNat, by omega⟩
          subst hM
          rw [Int.toNat_natCast] at hLn hLN
          have HLM := Lib.hid hLn
          clear hLn hLe HL
          have HSo := Lib.hid (splitSort_c gB g2 n n g3 n g1 (rems t s ws) wr hn0 hn hbox O2.reads O3 dB3 d23)
          go_wp2_with fail
          refine HSo.out.mono ?_
          rintro e w5 ⟨rfl, P3, hG⟩
          have P1 := O1.keptN hG d13
          have hE5 := hE.grown hG (fun k hk => by injection hk with hk; rw [← hk, HG1.out]; exact l3)
          clear HSo O1 O2 O3 hbox hE hG
          have HOL := Lib.hid (show (ordL (rems t s ws)).length = n by rw [ordL_len, HRL.out])
          have HQr := Lib.hid (quos_le HP.out)
          rw [HSe.out] at HQr
          have HFin := Lib.hid (show (splitL t ws, (0 : Int)) = (bump (quos t s ws) ((ordL (rems t s ws)).take M), 0) by unfold splitL; rw [HSe.out, HLM.out])
          go_wp2_with fail
          go_loopw [86] (fun ti wr => ∃ i : Nat, i ≤ M ∧ ti = .int .i64 i ∧ Own .i64 3 wr g1 (some ⟨g1, 0, none⟩) n n (bump (quos t s ws) ((ordL (rems t s ws)).take i)) ∧ Own .i64 3 wr g1 (some ⟨g3, 0, none⟩) n n ((ordL (rems t s ws)).map fun i : Nat => (i : Int)) ∧ E w wr) (fun ti _ => M - (intOf ti).toNat)
          case atStart => exact ⟨0, Nat.zero_le _, rfl, by simpa [bump] using P1, P3, hE5⟩
          case round =>
            clear P1 P3 hE5
            obtain ⟨i, hi, rfl, P1, P3, hE⟩ := hrel
            by_cases him : i < M
            · obtain ⟨x, _, _, hx, _, c3, f3⟩ := P3.getg (i := i) (by omega)
              rw [List.getElem?_map] at hx
              obtain ⟨m, hm', hxm⟩ := Option.map_eq_some_iff.1 hx
              subst hxm
              have hmn : m < n := by have := ordL_mem.1 (List.mem_of_getElem? hm'); rwa [HRL.out] at this
              obtain ⟨y, _, _, hy, _, c1, f1⟩ := P1.getg hmn
              obtain ⟨y0, y1⟩ := bump_le HQr.out ((ordL_nodup _).sublist (List.take_sublist _ _)) hy
              have HB := Lib.hid (bump_step hm' hy)
              have hmI : (m : Int) < (n : Int) := by omega
              have hiI : (i : Int) < (n : Int) := by omega
              clear hx hm' hy
              go_wp2_with fail
              have G1 := grown_set wr g1 m (.int .i64 (y + 1))
              have P1' := P1.set m (y + 1) (wf_of_i64 (by omega) (by omega))
              have P3' := P3.keptN G1 d13.symm
              rw [HB.out] at P1'
              have PE := hE.setCell (p := ⟨g1, m, none⟩) (show w.heap.size ≤ g1 by rw [HG1.out]; exact Nat.le_refl _) (.int .i64 (y + 1))
              clear G1
              go_roundw
              case rel => exact ⟨i + 1, by omega, by go_num, P1', P3', PE⟩
              case measure => simp [intOf]; omega
            · obtain rfl : i = M := by omega
              go_wp2_with fail
              go_ret2
              exact RetOwnErr.mk_ HFin.out (HG1.out ▸ P1) hE
theorem split_c (t : Int) (A : Option Addr) (n c : Nat) (ws : List Int) (w : World) (h : Nums .i64 w A n c ws) (hn : n ≤ 1048576) :
    Calls Try.prog 50 #[.int .i64 t, .slice A n c] w (RetOwnErr .i64 3 w (splitS t ws)) := by
  unfold splitS
  cases hok : splitOk t ws
  · refine (split_no t A n c ws w h hok).mono ?_
    rintro e w' ⟨rfl, rfl⟩
    exact RetOwnErr.mk_ rfl (Own.nil _ _ _ _) (E.refl _)
  · exact split_yes t A n c ws w h hok hn
end Go.Proofs.Ytgbamgijpgjmgaa
/- Contracts of the reference's Sum and Weights; the examples of the section. -/
namespace Go.Proofs.Ytgbamgijpgjmgaa
open Go.RowKit

def RetT (w : World) (b : Bool) (e : Ending) (w' : World) : Prop := e = .returned (.bool b) ∧ E w w'

theorem ord1 : ordL [1, 1, 1] = [0, 1, 2] := List.mergeSort_of_pairwise (by decide)
theorem ord2 : ordL [2, 0, 5] = [2, 0, 1] := by
  show List.mergeSort [0, 1, 2] _ = _
  simp [List.mergeSort, List.MergeSort.Internal.splitInTwo, prec]
theorem ex1 : splitS 10 [1, 1, 1] = ([4, 3, 3], 0) := by
  have h : splitL 10 [1, 1, 1] = bump (quos 10 3 [1, 1, 1]) ((ordL [1, 1, 1]).take 1) := rfl
  have h2 : splitOk 10 [1, 1, 1] = true := by decide
  rw [splitS, if_pos h2, h, ord1]; rfl
theorem ex2 : splitS 10 [3, 0, 4] = ([4, 0, 6], 0) := by
  have h : splitL 10 [3, 0, 4] = bump (quos 10 7 [3, 0, 4]) ((ordL [2, 0, 5]).take 1) := rfl
  have h2 : splitOk 10 [3, 0, 4] = true := by decide
  rw [splitS, if_pos h2, h, ord2]; rfl

/-- a slice that was just written down -/
theorem nums_new (k : IntKind) (w : World) (l : List Int) (T : TypeId) (hl : l.length ≤ 1000) (hw : ∀ x ∈ l, (Lit.int k x).wf = true) : Nums k (w.alloc (.cells (l.map (Value.int k)).toArray T)) (some ⟨w.heap.size, 0, none⟩) l.length l.length l := by
  refine ⟨rfl, Nat.le_refl _, by unfold maxLen; omega, hw, fun _ => ⟨w.heap.size, 0, rfl, by simp, fun i hi => ?_⟩⟩
  rw [Nat.zero_add, cell_of_row _ w.heap.size i _ _ _ (heap_alloc_new w _)]
  simp [hi]

def wgt (x : Int) : Int := if x % 1099511627777 % 3 = 0 then x % 1099511627777 / 3 % 5 else x % 1099511627777
def wgts (l : List Int) : List Int := (l.take 6).map wgt
def weightsL (l : List Int) : List Int := if (wgts l).sum = 0 then wgts l ++ [1] else wgts l
theorem wgt_range (x : Int) : 0 ≤ wgt x ∧ wgt x ≤ 1099511627776 := by unfold wgt; split <;> omega
theorem wgts_range {l : List Int} : ∀ x ∈ wgts l, 0 ≤ x ∧ x ≤ 1099511627776 := by
  intro x hx
  simp only [wgts, List.mem_map] at hx
  obtain ⟨y, _, rfl⟩ := hx
  exact wgt_range y
theorem wgts_len (l : List Int) : (wgts l).length = min 6 l.length := by simp [wgts]
theorem weightsL_len (l : List Int) : (weightsL l).length ≤ 7 := by
  unfold weightsL
  have := wgts_len l
  split
  · simp; omega
  · omega
theorem weightsL_range {l : List Int} : ∀ x ∈ weightsL l, 0 ≤ x ∧ x ≤ 1099511627776 := by
  intro x hx
  unfold weightsL at hx
  split at hx
  · rcases List.mem_append.1 hx with hx | hx
    · exact wgts_range x hx
    · simp at hx; omega
  · exact wgts_range x hx
theorem weightsL_sum (l : List Int) : 0 < (weightsL l).sum ∧ (weightsL l).sum ≤ 1152921504606846976 := by
  have h1 := sum_nonneg fun x hx => (weightsL_range (l := l) x hx).1
  have key : ∀ (l : List Int), (∀ x ∈ l, 0 ≤ x ∧ x ≤ 1099511627776) → l.sum ≤ 1099511627776 * (l.length : Int) := by
    intro l
    induction l with
    | nil => simp
    | cons a l ih =>
      intro h
      have := ih fun x hx => h x (by simp [hx])
      have := h a (by simp)
      rw [List.sum_cons, List.length_cons]; omega
  have h2 := key _ (weightsL_range (l := l))
  have h3 := weightsL_len l
  refine ⟨?_, by omega⟩
  unfold weightsL
  have h4 := sum_nonneg fun x hx => (wgts_range (l := l) x hx).1
  split
  · rw [List.sum_append]; simp; omega
  · omega
theorem weightsL_pre {t : Int} (h0 : 0 ≤ t) (h1 : t ≤ 1099511627776) (l : List Int) : SplitPre t (weightsL l) := ⟨h0, h1, weightsL_range, (weightsL_sum l).1, (weightsL_sum l).2⟩
theorem wgts_snoc {l : List Int} {k : Nat} {x : Int} (h : l[k]? = some x) : (l.take (k + 1)).map wgt = (l.take k).map wgt ++ [wgt x] := by
  obtain ⟨hk, rfl⟩ := List.getElem?_eq_some_iff.1 h
  rw [List.take_succ_eq_append_getElem hk, List.map_append]; rfl

theorem q1 : divQ 10 2 3 = 6 := by decide
theorem e1' : divE 10 2 3 = 0 := by decide
theorem q2 : ceilQ 10 2 3 = 7 := by decide
theorem e2' : ceilE 10 2 3 = 0 := by decide
end Go.Proofs.Ytgbamgijpgjmgaa
/- Contract of the reference's Split. -/
namespace Go.Proofs.Ytgbamgijpgjmgaa
open Go.RowKit

/-- the sum of the first k weights; it may be over the limit by the last one -/
theorem splitOk_far {t : Int} {ws : List Int} {k : Nat} {s : Int} (h : SumAt ws k s) (hs : 1152921504606846976 < s) : splitOk t ws = false := by
  cases hc : splitOk t ws
  · rfl
  · have h1 := h.le (splitOk_all hc)
    have h2 := (splitPre_of hc).s1
    omega
theorem splitOk_bad {t : Int} {ws : List Int} {x : Int} (hx : x ∈ ws) (h : okU x = false) : splitOk t ws = false := by
  cases hc : splitOk t ws
  · rfl
  · have := List.all_eq_true.1 (splitOk_all hc) x hx
    rw [h] at this; cases this

set_option maxHeartbeats 1000000 in
set_option maxRecDepth 100000 in
theorem refSplit_no (t : Int) (A : Option Addr) (n c : Nat) (ws : List Int) (w : World) (h : Nums .i64 w A n c ws) (hno : splitOk t ws = false) :
    Calls Try.prog 82 #[.int .i64 t, .slice A n c] w fun e w' => e = .returned (.tuple #[.slice none 0 0, .int .i64 1]) ∧ w = w' := by
  have hm := h.n63
  have HN := Lib.hid hno
  clear hno
  go_enter Try.func82, Try.ntmps82
  go_wp2_with fail
  go_loop [6, 7] (fun ts ti => ∃ (k : Nat) (s : Int), k ≤ n ∧ ti = .int .i64 k ∧ ts = .int .i64 s ∧ 0 ≤ s ∧ s ≤ 1152922604118474752 ∧ Hid (SumAt ws k s)) (fun _ ti => n - (intOf ti).toNat)
  case atStart => exact ⟨0, 0, Nat.zero_le _, rfl, rfl, by omega, by omega, SumAt.start ws⟩
  case round =>
    obtain ⟨k, s, hk, rfl, rfl, s0, s1, hS⟩ := hrel
    by_cases hlt : k < n
    · obtain ⟨b, o, x, rfl, hb, hx, hwx, hck⟩ := h.get hlt
      cases hox : okU x
      · clear hx hwx
        go_wp2_with (go_at_call 101; refine (refAmount_c _ _).mono ?_; rintro e w' ⟨rfl, rfl⟩)
        go_ret2
        exact ⟨rfl, rfl⟩
      · have HS := Lib.hid (hS.out.step hx hox)
        obtain ⟨x0, x1⟩ := okU_iff.1 hox
        clear hx hwx
        by_cases hbig : 1152921504606846976 < s
        · have db : decide (1152921504606846976 < s) = true := by simpa using hbig
          go_wp2_with (go_at_call 101; refine (refAmount_c _ _).mono ?_; rintro e w' ⟨rfl, rfl⟩)
          go_ret2
          exact ⟨rfl, rfl⟩
        · have db : decide (1152921504606846976 < s) = false := by simpa using hbig
          go_wp2_with (go_at_call 101; refine (refAmount_c _ _).mono ?_; rintro e w' ⟨rfl, rfl⟩)
          go_round
          case rel => exact ⟨k + 1, s + x, by omega, by go_num, rfl, by omega, by omega, HS⟩
          case measure => simp [intOf]; omega
    · obtain ⟨f1, f2⟩ := hS.out.all (by rw [h.len]; omega)
      cases ht : okU t
      · clear f1 f2
        go_wp2_with (go_at_call 101; refine (refAmount_c _ _).mono ?_; rintro e w' ⟨rfl, rfl⟩)
        go_ret2
        exact ⟨rfl, rfl⟩
      · by_cases hbig : 1152921504606846976 < s
        · have hs0 : (s == 0) = false := by simp; omega
          clear f1 f2
          go_wp2_with (go_at_call 101; refine (refAmount_c _ _).mono ?_; rintro e w' ⟨rfl, rfl⟩)
          go_ret2
          exact ⟨rfl, rfl⟩
        · obtain rfl : s = 0 := by rw [f1]; exact splitOk_fin ht HN.out f2 (by rw [← f1]; omega)
          clear f1 f2
          go_wp2_with (go_at_call 101; refine (refAmount_c _ _).mono ?_; rintro e w' ⟨rfl, rfl⟩)
          go_ret2
          exact ⟨rfl, rfl⟩

theorem take_snoc_get {l : List Int} {k : Nat} {x : Int} (h : l[k]? = some x) : l.take (k + 1) = l.take k ++ [x] := by
  obtain ⟨hk, rfl⟩ := List.getElem?_eq_some_iff.1 h
  rw [List.take_succ_eq_append_getElem hk]

set_option maxHeartbeats 4000000 in
set_option maxRecDepth 100000 in
theorem refSplit_yes (t : Int) (A : Option Addr) (n c : Nat) (ws : List Int) (w : World) (h : Nums .i64 w A n c ws) (hok : splitOk t ws = true) (hn : n ≤ 1048576) :
    Calls Try.prog 82 #[.int .i64 t, .slice A n c] w (RetOwnErr .i64 3 w (splitL t ws, 0)) := by
  have hm := h.n63
  have hpre := splitPre_of hok
  have hall := splitOk_all hok
  have ht : okU t = true := okU_iff.2 ⟨hpre.t0, hpre.t1⟩
  obtain ⟨t0, t1⟩ := okU_iff.1 ht
  have s0 := hpre.s0
  have s1 := hpre.s1
  have hn0 : 0 < n := by
    rcases Nat.eq_zero_or_pos n with h0 | h0
    · have : ws = [] := List.eq_nil_of_length_eq_zero (by rw [h.len, h0])
      rw [this] at s0; simp at s0
    · exact h0
  have HP := Lib.hid hpre
  have HA := Lib.hid hall
  clear hok hpre hall
  go_enter Try.func82, Try.ntmps82
  go_wp2_with fail
  go_loop [6, 7] (fun ts ti => ∃ (k : Nat) (s : Int), k ≤ n ∧ ti = .int .i64 k ∧ ts = .int .i64 s ∧ 0 ≤ s ∧ s ≤ 1152921504606846976 ∧ Hid (SumAt ws k s)) (fun _ ti => n - (intOf ti).toNat)
  case atStart => exact ⟨0, 0, Nat.zero_le _, rfl, rfl, by omega, by omega, SumAt.start ws⟩
  case round =>
    obtain ⟨k, s, hk, rfl, rfl, z0, z1, hS⟩ := hrel
    by_cases hlt : k < n
    · obtain ⟨b, o, x, rfl, hb, hx, hwx, hck⟩ := h.get hlt
      have hox : okU x = true := List.all_eq_true.1 HA.out x (List.mem_of_getElem? hx)
      have HS := Lib.hid (hS.out.step hx hox)
      obtain ⟨x0, x1⟩ := okU_iff.1 hox
      have hle : s + x ≤ 1152921504606846976 := by have := HS.out.le HA.out; omega
      have db : decide (1152921504606846976 < s) = false := by simpa using z1
      clear hx hwx
      go_wp2_with (go_at_call 101; refine (refAmount_c _ _).mono ?_; rintro e w' ⟨rfl, rfl⟩)
      go_round
      case rel => exact ⟨k + 1, s + x, by omega, by go_num, rfl, by omega, by omega, HS⟩
      case measure => simp [intOf]; omega
    · obtain ⟨f1, _⟩ := hS.out.all (by rw [h.len]; omega)
      obtain ⟨S, hSe⟩ : ∃ S, ws.sum = S := ⟨_, rfl⟩
      rw [hSe] at f1 s0 s1
      subst f1
      have HSe := Lib.hid hSe
      have hs0 : (s == 0) = false := by simp; omega
      clear hSe hS
      have db : decide (1152921504606846976 < s) = false := by simpa using s1
      have HQL := Lib.hid (show (quos t s ws).length = n by rw [quos_len, h.len])
      have HRL := Lib.hid (show (rems t s ws).length = n by rw [rems_len, h.len])
      have hLf := Lib.hid (left_facts (t := t) (ws := ws) HP.out.s0)
      have hLl := Lib.hid (left_le (t := t) (ws := ws) HP.out.s0)
      have HQr := Lib.hid (quos_le HP.out)
      have HRr := Lib.hid (rems_nonneg (t := t) HP.out.s0 (ws := ws))
      rw [HSe.out] at hLf hLl HQr HRr
      go_wp2_with (go_at_call 101; refine (refAmount_c _ _).mono ?_; rintro e w' ⟨rfl, rfl⟩)
      go_loopw [10, 11, 12, 13] (fun tv tr tl ti wr => ∃ (j co cr : Nat) (Ao Ar : Option Addr) (L : Int), j ≤ n ∧ ti = .int .i64 j ∧ tv = .slice Ao j co ∧ tr = .slice Ar j cr ∧ tl = .int .i64 L ∧ 0 ≤ L ∧ L ≤ t ∧ Hid (L = t - ((quos t s ws).take j).sum) ∧ Own .i64 3 wr w.heap.size Ao j co ((quos t s ws).take j) ∧ Own .i64 3 wr w.heap.size Ar j cr ((rems t s ws).take j) ∧ apartS Ao Ar ∧ E w wr) (fun _ _ _ ti _ => n - (intOf ti).toNat)
      case atStart => exact ⟨0, 0, 0, none, none, t, Nat.zero_le _, rfl, rfl, rfl, rfl, t0, Int.le_refl _, show _ = _ by simp, by simpa using Own.nil _ _ _ _, by simpa using Own.nil _ _ _ _, apart_none _, E.refl _⟩
      case round =>
        obtain ⟨j, co, cr, Ao, Ar, L, hj, rfl, rfl, rfl, rfl, L0, L1, HL, O1, O2, hap, hE⟩ := hrel
        obtain ⟨wi, rfl⟩ : ∃ wo : World, wo = wr := ⟨_, rfl⟩
        have hle := hE.le
        by_cases hjn : j < n
        · obtain ⟨b, o, x, hA, hb, hx, hwx, hck⟩ := (h.e hE).get hjn
          subst hA
          have hxm := List.mem_of_getElem? hx
          obtain ⟨x0, x1⟩ := HP.out.w0 x hxm
          have hxs : x ≤ s := by have := le_sum (fun y hy => (HP.out.w0 y hy).1) hxm; rwa [HSe.out] at this
          have hqle := part_le t0 hxs s0
          have hq0 := Int.ediv_nonneg (Int.mul_nonneg t0 x0) (Int.le_of_lt s0)
          have hr0 := Int.emod_nonneg (t * x) (show s ≠ 0 by omega)
          have hr1 := Int.emod_lt_of_pos (t * x) s0
          have HD := Lib.hid (fun W => refDivide_t t x s W t0 (by omega) x0 (by omega) s0 s1 (by omega))
          have hqk : (quos t s ws)[j]? = some (t * x / s) := by simp [quos, hx]
          have hrk : (rems t s ws)[j]? = some (t * x % s) := by simp [rems, hx]
          have HFQ := Lib.hid (take_snoc_get hqk)
          have HFR := Lib.hid (take_snoc_get hrk)
          have HLs := Lib.hid (show L - t * x / s = t - ((quos t s ws).take (j + 1)).sum by
            rw [HFQ.out, List.sum_append, HL.out]; simp; omega)
          have hLn : 0 ≤ L - t * x / s := by
            have a1 := sum_take_le (fun x hx => (HQr.out x hx).1) (j + 1)
            have a2 := hLf.out.1
            have a3 := HLs.out
            omega
          clear hx hwx hxm hqk hrk
          generalize t * x / s = q at *
          generalize t * x % s = r at *
          have tok1 : True := trivial
          go_wp2_with (first
            | (go_at_call 102; refine (HD.out _).mono ?_; rintro e w' ⟨rfl, rfl⟩)
            | (at_builtin; have _t := tok1; refine wpList_app1n intT3 _ rfl _ _ rfl _ _ _ _ _ rfl O1 _ rfl (wf_of_i64 (by omega) (by omega)) (by omega) hle ?_; intro g' c3 w3 P1 hG3 hB3 hor3; clear tok1 _t; have P2 := O2.keptA hG3 hap.symm; have hap3 := apart_grow hap.symm (fun b hb => (O2.ltN b hb).2) hor3; have hle3 := Nat.le_trans hle hG3.size)
            | (at_builtin; refine wpList_app1n intT3 _ rfl _ _ rfl _ _ _ _ _ rfl P2 _ rfl (wf_of_i64 (by omega) (by omega)) (by omega) hle3 ?_; intro g'' c4 w4 R2 hG4 hB4 hor4; have R1 := P1.keptA hG4 hap3.symm; have hap4 := apart_grow hap3.symm (fun b hb => (P1.ltN b hb).2) hor4))
          rw [← HFQ.out] at R1
          rw [← HFR.out] at R2
          go_roundw
          case rel => exact ⟨j + 1, c3, c4, _, _, L - q, by omega, by go_num, rfl, rfl, rfl, hLn, by omega, HLs, R1, R2, hap4, (hE.up hB3).up hB4⟩
          case measure => simp [intOf]; omega
        · obtain rfl : j = n := by omega
          rw [List.take_of_length_le (by rw [HQL.out]; exact Nat.le_refl _)] at O1
          rw [List.take_of_length_le (by rw [HRL.out]; exact Nat.le_refl _)] at O2
          have hLe : L = t - (quos t s ws).sum := by rw [HL.out, List.take_of_length_le (by rw [HQL.out]; exact Nat.le_refl _)]
          have hLn : L.toNat = leftS t s ws := by rw [hLe]; rfl
          have hLN : L.toNat ≤ j := by rw [hLn, ← h.len]; exact hLl.out
          obtain ⟨M, hM⟩ : ∃ M : Nat, L = M := ⟨L.toNat, by omega⟩
          subst hM
          rw [Int.toNat_natCast] at hLn hLN
          have HFin := Lib.hid (show (splitL t ws, (0 : Int)) = (bump (quos t s ws) ((ordL (rems t s ws)).take M), 0) by unfold splitL; rw [HSe.out, hLn])
          have HOL := Lib.hid (show (ordL (rems t s ws)).length = j by rw [ordL_len, HRL.out])
          clear hLn hLe HL
          obtain ⟨go, _, rfl, hgo, _⟩ := O1.get (i := 0) hn0
          obtain ⟨gr, _, rfl, hgr, _⟩ := O2.get (i := 0) hn0
          have dne : go ≠ gr := fun e => hap go rfl (by rw [e]; rfl)
          have c63a := O1.reads.c63
          have c63b := O2.reads.c63
          clear hap
          go_wp2_with fail
          go_loopw [12, 17, 18] (fun tl _ _ wr => ∃ (k : Nat) (L : Int), k ≤ M ∧ tl = .int .i64 L ∧ Hid (L = (M : Int) - (k : Int)) ∧ Own .i64 3 wr w.heap.size (some ⟨go, 0, none⟩) j co (bump (quos t s ws) ((ordL (rems t s ws)).take k)) ∧ Own .i64 3 wr w.heap.size (some ⟨gr, 0, none⟩) j cr (mark (rems t s ws) ((ordL (rems t s ws)).take k)) ∧ E w wr) (fun tl _ _ _ => (intOf tl).toNat)
          case atStart => exact ⟨0, M, Nat.zero_le _, rfl, show _ = _ by omega, by simpa [bump] using O1, by simpa [mark] using O2, hE⟩
          case round =>
            clear O1 O2 hE hle
            obtain ⟨k, L, hk, rfl, HLk, O1, O2, hE⟩ := hrel
            obtain ⟨wa, rfl⟩ : ∃ wo : World, wo = wr := ⟨_, rfl⟩
            by_cases hkM : k < M
            · have hpos : 0 < L := by have := HLk.out; omega
              have hposd : decide (0 < L) = true := by simpa using hpos
              have hLM : L ≤ 1048576 := by have := HLk.out; omega
              obtain ⟨R, hR⟩ : ∃ R, mark (rems t s ws) ((ordL (rems t s ws)).take k) = R := ⟨_, rfl⟩
              rw [hR] at O2
              have HR := Lib.hid hR
              clear hR
              have hRd := O2.reads
              go_wp2_with fail
              go_loopw [17, 18] (fun tb ti wr => ∃ i b : Nat, 1 ≤ i ∧ i ≤ j ∧ b < i ∧ ti = .int .i64 i ∧ tb = .int .i64 b ∧ Hid (FirstMax R i b) ∧ Q wa wr) (fun _ ti _ => j - (intOf ti).toNat)
              case atStart => exact ⟨1, 0, by omega, by omega, by omega, rfl, rfl, FirstMax.start R, Q.refl _⟩
              case round =>
                obtain ⟨i, b, i1, i2, hbi, rfl, rfl, hFM, hq⟩ := hrel
                obtain ⟨wb, rfl⟩ : ∃ wo : World, wo = wr := ⟨_, rfl⟩
                by_cases hij : i < j
                · obtain ⟨b1, o1, x, e1, _, hx, _, cx⟩ := (hRd.q hq).get hij
                  obtain ⟨b2, o2, y, e2, _, hy, _, cy⟩ := (hRd.q hq).get (i := b) (by omega)
                  injection e1 with e1; injection e1 with e1 e1'; subst e1 e1'
                  injection e2 with e2; injection e2 with e2 e2'; subst e2 e2'
                  rw [Nat.zero_add] at cx cy
                  have hgx : R.getD i 0 = x := by rw [List.getD_eq_getElem?_getD, hx]; rfl
                  have hgy : R.getD b 0 = y := by rw [List.getD_eq_getElem?_getD, hy]; rfl
                  have hbI : (b : Int) < (j : Int) := by omega
                  by_cases hg : y < x
                  · have HF := Lib.hid (hFM.out.more (by rw [hgx, hgy]; exact hg))
                    have d1 : decide (y < x) = true := by simpa using hg
                    clear hx hy hgx hgy
                    go_wp2_with fail
                    go_quiet (fail)
                    go_wp2_with fail
                    go_roundw
                    case rel => exact ⟨i + 1, i, by omega, by omega, by omega, by go_num, rfl, HF, hq.drewN _⟩
                    case measure => simp [intOf]; omega
                  · have HF := Lib.hid (hFM.out.keep (by rw [hgx, hgy]; exact hg))
                    have d1 : decide (y < x) = false := by simpa using hg
                    clear hx hy hgx hgy
                    go_wp2_with fail
                    go_quiet (fail)
                    go_wp2_with fail
                    go_roundw
                    case rel => exact ⟨i + 1, b, by omega, by omega, by omega, by go_num, rfl, HF, hq.drewN _⟩
                    case measure => simp [intOf]; omega
                · obtain rfl : i = j := by omega
                  have hord : (ordL (rems t s ws))[k]? = some b := by
                    have hF := hFM.out
                    rw [← HR.out, ← HRL.out] at hF
                    exact ord_first (fun x hx => (HRr.out x hx).1) (by rw [HRL.out]; omega) hF
                  replace O1 := O1.q hq
                  replace O2 := O2.q hq
                  replace hE := hE.q hq
                  obtain ⟨y, _, _, hy, _, c1, f1⟩ := O1.getg (i := b) (by omega)
                  obtain ⟨_, _, _, _, _, c2, f2⟩ := O2.getg (i := b) (by omega)
                  obtain ⟨y0, y1⟩ := bump_le HQr.out ((ordL_nodup _).sublist (List.take_sublist _ _)) hy
                  have HB := Lib.hid (bump_step hord hy)
                  have HMk := Lib.hid (show R.set b (-1) = mark (rems t s ws) ((ordL (rems t s ws)).take (k + 1)) by
                    obtain ⟨hk', e'⟩ := List.getElem?_eq_some_iff.1 hord
                    rw [List.take_succ_eq_append_getElem hk', mark_snoc, e', HR.out])
                  have hbI : (b : Int) < (i : Int) := by omega
                  have G1 := grown_set wb go b (.int .i64 (y + 1))
                  have c2' := cell_grown c2 G1 dne.symm
                  have f2' : (wb.setCell ⟨go, b, none⟩ (.int .i64 (y + 1))).frozen? ⟨gr, b, none⟩ = false := by
                    have := (O2.keptN G1 dne.symm).getg (i := b) (by omega)
                    obtain ⟨_, _, _, _, _, _, f⟩ := this
                    exact f
                  have P1 := (O1.set b (y + 1) (wf_of_i64 (by omega) (by omega))).keptN (grown_set _ gr b (.int .i64 (-1))) dne
                  have P2 := (O2.keptN G1 dne.symm).set b (-1) (wf_of_i64 (by omega) (by omega))
                  rw [HB.out] at P1
                  rw [HMk.out] at P2
                  have PE := (hE.setCell (p := ⟨go, b, none⟩) hgo (.int .i64 (y + 1))).setCell (p := ⟨gr, b, none⟩) hgr (.int .i64 (-1))
                  clear hord hy G1
                  go_wp2_with fail
                  go_roundw
                  case rel => exact ⟨k + 1, L - 1, by omega, rfl, show _ = _ by have := HLk.out; omega, P1, P2, PE⟩
                  case measure => simp [intOf]; omega
            · obtain rfl : k = M := by omega
              obtain rfl : L = 0 := by have := HLk.out; omega
              go_wp2_with fail
              go_ret2
              exact RetOwnErr.mk_ HFin.out O1 hE
theorem refSplit_c (t : Int) (A : Option Addr) (n c : Nat) (ws : List Int) (w : World) (h : Nums .i64 w A n c ws) (hn : n ≤ 1048576) :
    Calls Try.prog 82 #[.int .i64 t, .slice A n c] w (RetOwnErr .i64 3 w (splitS t ws)) := by
  unfold splitS
  cases hok : splitOk t ws
  · refine (refSplit_no t A n c ws w h hok).mono ?_
    rintro e w' ⟨rfl, rfl⟩
    exact RetOwnErr.mk_ rfl (Own.nil _ _ _ _) (E.refl _)
  · exact refSplit_yes t A n c ws w h hok hn
end Go.Proofs.Ytgbamgijpgjmgaa
