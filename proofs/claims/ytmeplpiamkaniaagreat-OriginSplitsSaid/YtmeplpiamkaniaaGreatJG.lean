/- Lemmas of the claim, joined: Ss Sl Sg S9 S10 S11 TR TS TT TU VA VB VC VD VE VF VG QU. No condition. -/
import Derived.Ground.SlsoProg
import Derived.Shelf.SlSorted.Search
import Derived.Test.YtmeplpiamkaniaaGreatProg
import Derived.Ground.SlsfProg
import Derived.Shelf.SlSortCmp.NoneTotal
import Derived.Shelf.SlGeneric
import Derived.Test.YtmeplpiamkaniaaGreatJC
import Derived.Test.YtmeplpiamkaniaaGreatJA
import Derived.Sort.OwnSortedInts
import Derived.Deep.RegionHeld3
import Derived.RegionTactic
import Derived.BigRegion
import Derived.Deep.DeepCutAuto
import Derived.Deep.CutBlock
namespace Go.Proofs
set_option linter.unusedVariables false
set_option linter.unusedSimpArgs false
open Go.Shelf
def Tryz.searchS_ren : Go.Shelf.Ren := ⟨fun | 16 => 96 | n => n, fun | 3 => 3 | 35 => 89 | 4 => 4 | 38 => 110 | n => n, fun | n => n⟩
theorem Tryz.searchS : Go.Proofs.SlLaysO.n16 Tryz.prog Tryz.searchS_ren := {
  mixed := by kernel_rfl
  f16 := Tryz.func96.trans (congrArg some (by kernel_rfl))
  t3 := Tryz.underlying3
  a3 := Tryz.isAgg3
  z3 := Tryz.sizeOf3
  v3 := Tryz.zeroValue3
  t4 := Tryz.underlying4
  a4 := Tryz.isAgg4
  z4 := Tryz.sizeOf4
  v4 := Tryz.zeroValue4
  t35 := Tryz.underlying89
  a35 := Tryz.isAgg89
  z35 := Tryz.sizeOf89
  v35 := Tryz.zeroValue89
  t38 := Tryz.underlying110
  a38 := Tryz.isAgg110
  z38 := Tryz.sizeOf110
  v38 := Tryz.zeroValue110 }
end Go.Proofs
namespace Go.Proofs
set_option linter.unusedVariables false
set_option linter.unusedSimpArgs false
open Go.Shelf
def Tryz.sortFuncL_ren : Go.Shelf.Ren := ⟨fun | 6 => 79 | 15 => 76 | 14 => 117 | 28 => 115 | 29 => 116 | 20 => 136 | 21 => 137 | 22 => 138 | 23 => 139 | 24 => 140 | 25 => 141 | 26 => 142 | 27 => 143 | 46 => 148 | 47 => 132 | 48 => 133 | 49 => 149 | 50 => 150 | 57 => 152 | n => n, fun | 22 => 41 | 24 => 30 | 25 => 115 | 3 => 3 | 39 => 110 | 0 => 0 | 53 => 142 | 55 => 34 | 4 => 4 | 46 => 135 | 45 => 134 | 50 => 67 | 5 => 5 | 9 => 9 | 66 => 154 | 70 => 158 | 76 => 167 | 77 => 168 | n => n, fun | n => n⟩
theorem Tryz.sortFuncL : Go.Proofs.SlLaysF0.n6 Tryz.prog Tryz.sortFuncL_ren := {
  mixed := by kernel_rfl
  f6 := ⟨Tryz.f79.name, by decide, Tryz.func79.trans (congrArg some (by kernel_rfl))⟩
  f14 := ⟨Tryz.f117.name, by decide, Tryz.func117.trans (congrArg some (by kernel_rfl))⟩
  f15 := Tryz.func76.trans (congrArg some (by kernel_rfl))
  f20 := ⟨Tryz.f136.name, by decide, Tryz.func136.trans (congrArg some (by kernel_rfl))⟩
  f21 := ⟨Tryz.f137.name, by decide, Tryz.func137.trans (congrArg some (by kernel_rfl))⟩
  f22 := ⟨Tryz.f138.name, by decide, Tryz.func138.trans (congrArg some (by kernel_rfl))⟩
  f23 := ⟨Tryz.f139.name, by decide, Tryz.func139.trans (congrArg some (by kernel_rfl))⟩
  f24 := ⟨Tryz.f140.name, by decide, Tryz.func140.trans (congrArg some (by kernel_rfl))⟩
  f25 := ⟨Tryz.f141.name, by decide, Tryz.func141.trans (congrArg some (by kernel_rfl))⟩
  f26 := ⟨Tryz.f142.name, by decide, Tryz.func142.trans (congrArg some (by kernel_rfl))⟩
  f27 := ⟨Tryz.f143.name, by decide, Tryz.func143.trans (congrArg some (by kernel_rfl))⟩
  f28 := Tryz.func115.trans (congrArg some (by kernel_rfl))
  f29 := Tryz.func116.trans (congrArg some (by kernel_rfl))
  f46 := ⟨Tryz.f148.name, by decide, Tryz.func148.trans (congrArg some (by kernel_rfl))⟩
  f47 := Tryz.func132.trans (congrArg some (by kernel_rfl))
  f48 := Tryz.func133.trans (congrArg some (by kernel_rfl))
  f49 := ⟨Tryz.f149.name, by decide, Tryz.func149.trans (congrArg some (by kernel_rfl))⟩
  f50 := ⟨Tryz.f150.name, by decide, Tryz.func150.trans (congrArg some (by kernel_rfl))⟩
  f57 := ⟨Tryz.f152.name, by decide, Tryz.func152.trans (congrArg some (by kernel_rfl))⟩
  t0 := Tryz.underlying0
  a0 := Tryz.isAgg0
  z0 := Tryz.sizeOf0
  v0 := Tryz.zeroValue0
  t3 := Tryz.underlying3
  a3 := Tryz.isAgg3
  z3 := Tryz.sizeOf3
  v3 := Tryz.zeroValue3
  t4 := Tryz.underlying4
  a4 := Tryz.isAgg4
  z4 := Tryz.sizeOf4
  v4 := Tryz.zeroValue4
  t5 := Tryz.underlying5
  a5 := Tryz.isAgg5
  z5 := Tryz.sizeOf5
  v5 := Tryz.zeroValue5
  t9 := Tryz.underlying9
  a9 := Tryz.isAgg9
  z9 := Tryz.sizeOf9
  v9 := Tryz.zeroValue9
  t22 := Tryz.underlying41
  a22 := Tryz.isAgg41
  z22 := Tryz.sizeOf41
  v22 := Tryz.zeroValue41
  t25 := Tryz.underlying115
  a25 := Tryz.isAgg115
  z25 := Tryz.sizeOf115
  v25 := Tryz.zeroValue115
  t39 := Tryz.underlying110
  a39 := Tryz.isAgg110
  z39 := Tryz.sizeOf110
  v39 := Tryz.zeroValue110
  t45 := Tryz.underlying134
  a45 := Tryz.isAgg134
  z45 := Tryz.sizeOf134
  v45 := Tryz.zeroValue134
  t46 := Tryz.underlying135
  a46 := Tryz.isAgg135
  z46 := Tryz.sizeOf135
  v46 := Tryz.zeroValue135
  t50 := Tryz.underlying67
  a50 := Tryz.isAgg67
  z50 := Tryz.sizeOf67
  v50 := Tryz.zeroValue67
  t53 := Tryz.underlying142
  a53 := Tryz.isAgg142
  z53 := Tryz.sizeOf142
  v53 := Tryz.zeroValue142
  t55 := Tryz.underlying34
  a55 := Tryz.isAgg34
  z55 := Tryz.sizeOf34
  v55 := Tryz.zeroValue34
  t66 := Tryz.underlying154
  a66 := Tryz.isAgg154
  z66 := Tryz.sizeOf154
  v66 := Tryz.zeroValue154
  t70 := Tryz.underlying158
  a70 := Tryz.isAgg158
  z70 := Tryz.sizeOf158
  v70 := Tryz.zeroValue158
  t76 := Tryz.underlying167
  a76 := Tryz.isAgg167
  z76 := Tryz.sizeOf167
  v76 := Tryz.zeroValue167
  t77 := Tryz.underlying168
  a77 := Tryz.isAgg168
  z77 := Tryz.sizeOf168
  v77 := Tryz.zeroValue168 }
end Go.Proofs
namespace Go.Proofs
set_option linter.unusedVariables false
set_option linter.unusedSimpArgs false
open Go.Shelf
def Tryz.sortFuncI_ren : Go.Shelf.Ren := ⟨fun | 6 => 50 | 15 => 76 | 14 => 88 | 28 => 115 | 29 => 116 | 20 => 119 | 21 => 120 | 22 => 121 | 23 => 122 | 24 => 123 | 25 => 124 | 26 => 125 | 27 => 126 | 46 => 144 | 47 => 132 | 48 => 133 | 49 => 145 | 50 => 146 | 57 => 151 | n => n, fun | 22 => 22 | 24 => 3 | 25 => 46 | 3 => 3 | 39 => 110 | 0 => 0 | 53 => 142 | 55 => 34 | 4 => 4 | 46 => 135 | 45 => 134 | 50 => 67 | 5 => 5 | 9 => 9 | 66 => 154 | 70 => 158 | 76 => 167 | 77 => 168 | n => n, fun | n => n⟩
theorem Tryz.sortFuncI : Go.Proofs.SlLaysF.n6 Tryz.prog Tryz.sortFuncI_ren := {
  mixed := by kernel_rfl
  f6 := ⟨Tryz.f50.name, by decide, Tryz.func50.trans (congrArg some (by kernel_rfl))⟩
  f14 := ⟨Tryz.f88.name, by decide, Tryz.func88.trans (congrArg some (by kernel_rfl))⟩
  f15 := Tryz.func76.trans (congrArg some (by kernel_rfl))
  f20 := ⟨Tryz.f119.name, by decide, Tryz.func119.trans (congrArg some (by kernel_rfl))⟩
  f21 := ⟨Tryz.f120.name, by decide, Tryz.func120.trans (congrArg some (by kernel_rfl))⟩
  f22 := ⟨Tryz.f121.name, by decide, Tryz.func121.trans (congrArg some (by kernel_rfl))⟩
  f23 := ⟨Tryz.f122.name, by decide, Tryz.func122.trans (congrArg some (by kernel_rfl))⟩
  f24 := ⟨Tryz.f123.name, by decide, Tryz.func123.trans (congrArg some (by kernel_rfl))⟩
  f25 := ⟨Tryz.f124.name, by decide, Tryz.func124.trans (congrArg some (by kernel_rfl))⟩
  f26 := ⟨Tryz.f125.name, by decide, Tryz.func125.trans (congrArg some (by kernel_rfl))⟩
  f27 := ⟨Tryz.f126.name, by decide, Tryz.func126.trans (congrArg some (by kernel_rfl))⟩
  f28 := Tryz.func115.trans (congrArg some (by kernel_rfl))
  f29 := Tryz.func116.trans (congrArg some (by kernel_rfl))
  f46 := ⟨Tryz.f144.name, by decide, Tryz.func144.trans (congrArg some (by kernel_rfl))⟩
  f47 := Tryz.func132.trans (congrArg some (by kernel_rfl))
  f48 := Tryz.func133.trans (congrArg some (by kernel_rfl))
  f49 := ⟨Tryz.f145.name, by decide, Tryz.func145.trans (congrArg some (by kernel_rfl))⟩
  f50 := ⟨Tryz.f146.name, by decide, Tryz.func146.trans (congrArg some (by kernel_rfl))⟩
  f57 := ⟨Tryz.f151.name, by decide, Tryz.func151.trans (congrArg some (by kernel_rfl))⟩
  t0 := Tryz.underlying0
  a0 := Tryz.isAgg0
  z0 := Tryz.sizeOf0
  v0 := Tryz.zeroValue0
  t3 := Tryz.underlying3
  a3 := Tryz.isAgg3
  z3 := Tryz.sizeOf3
  v3 := Tryz.zeroValue3
  t4 := Tryz.underlying4
  a4 := Tryz.isAgg4
  z4 := Tryz.sizeOf4
  v4 := Tryz.zeroValue4
  t5 := Tryz.underlying5
  a5 := Tryz.isAgg5
  z5 := Tryz.sizeOf5
  v5 := Tryz.zeroValue5
  t9 := Tryz.underlying9
  a9 := Tryz.isAgg9
  z9 := Tryz.sizeOf9
  v9 := Tryz.zeroValue9
  t22 := Tryz.underlying22
  a22 := Tryz.isAgg22
  z22 := Tryz.sizeOf22
  v22 := Tryz.zeroValue22
  a24 := Tryz.isAgg3
  z24 := Tryz.sizeOf3
  t25 := Tryz.underlying46
  a25 := Tryz.isAgg46
  z25 := Tryz.sizeOf46
  v25 := Tryz.zeroValue46
  t39 := Tryz.underlying110
  a39 := Tryz.isAgg110
  z39 := Tryz.sizeOf110
  v39 := Tryz.zeroValue110
  t45 := Tryz.underlying134
  a45 := Tryz.isAgg134
  z45 := Tryz.sizeOf134
  v45 := Tryz.zeroValue134
  t46 := Tryz.underlying135
  a46 := Tryz.isAgg135
  z46 := Tryz.sizeOf135
  v46 := Tryz.zeroValue135
  t50 := Tryz.underlying67
  a50 := Tryz.isAgg67
  z50 := Tryz.sizeOf67
  v50 := Tryz.zeroValue67
  t53 := Tryz.underlying142
  a53 := Tryz.isAgg142
  z53 := Tryz.sizeOf142
  v53 := Tryz.zeroValue142
  t55 := Tryz.underlying34
  a55 := Tryz.isAgg34
  z55 := Tryz.sizeOf34
  v55 := Tryz.zeroValue34
  t66 := Tryz.underlying154
  a66 := Tryz.isAgg154
  z66 := Tryz.sizeOf154
  v66 := Tryz.zeroValue154
  t70 := Tryz.underlying158
  a70 := Tryz.isAgg158
  z70 := Tryz.sizeOf158
  v70 := Tryz.zeroValue158
  t76 := Tryz.underlying167
  a76 := Tryz.isAgg167
  z76 := Tryz.sizeOf167
  v76 := Tryz.zeroValue167
  t77 := Tryz.underlying168
  a77 := Tryz.isAgg168
  z77 := Tryz.sizeOf168
  v77 := Tryz.zeroValue168 }
end Go.Proofs
namespace Go.Proofs.YtmeplpiamkaniaaGreat
set_option linter.unusedVariables false
set_option linter.unusedSimpArgs false
open Go.RowKit Go.Sort
def fcmp (rs : List Int) (x y : Nat) : Int := orI (cmpI (rs.getD y 0) (rs.getD x 0)) (cmpI x y)
set_option maxHeartbeats 2000000 in
set_option maxRecDepth 100000 in
theorem splitLess_c (B g n c x y : Nat) (rs : List Int) (W : World) (hB : W.cell? ⟨B, 0, none⟩ = some (.slice (some ⟨g, 0, none⟩) n c)) (hr : Nums .u64 W (some ⟨g, 0, none⟩) n c rs) (hx : x < n) (hy : y < n) :
    Calls Tryz.prog 51 #[.int .i64 x, .int .i64 y, .pointer (some ⟨B, 0, none⟩)] W fun e w' => e = .returned (.int .i64 (fcmp rs x y)) ∧ ∃ q o, w' = (W.drewN q).alloc o := by
  have hn := hr.n63
  obtain ⟨b1, o1, rx, e1, _, hrx, _, hcx⟩ := hr.get hx
  obtain ⟨b2, o2, ry, e2, _, hry, _, hcy⟩ := hr.get hy
  injection e1 with e1; injection e1 with e1 e1'; subst e1 e1'
  injection e2 with e2; injection e2 with e2 e2'; subst e2 e2'
  rw [Nat.zero_add] at hcx hcy
  have HF := Lib.hid (show fcmp rs x y = orI (cmpI ry rx) (cmpI x y) by unfold fcmp; rw [List.getD_eq_getElem?_getD, List.getD_eq_getElem?_getD, hrx, hry]; rfl)
  generalize fcmp rs x y = v at *
  clear hrx hry hr
  have hxI : (x : Int) < (n : Int) := by omega
  have hyI : (y : Int) < (n : Int) := by omega
  go_enter Tryz.func51, Tryz.ntmps51
  go_wp2_with fail
  go_region_held3 (fun w' => w'.cell? ⟨B, 0, none⟩ = some (.slice (some ⟨g, 0, none⟩) n c) ∧ w'.cell? ⟨g, x, none⟩ = some (.int .u64 rx) ∧ w'.cell? ⟨g, y, none⟩ = some (.int .u64 ry)) (go_keep)
    (first
      | (go_at_call 53; refine (cmpU64_c _ _ _).mono ?_; rintro e w' ⟨rfl, rfl⟩)
      | (go_at_call 54; refine (cmpI64_c _ _ _).mono ?_; rintro e w' ⟨rfl, rfl⟩)
      | (go_at_call 52; refine (cmpOr_c _ (cmpI ry rx) (cmpI x y) _ (by simp [World.cell?_alloc_new]) (by simp [World.cell?_alloc_new])).mono ?_; rintro e w' ⟨rfl, rfl⟩))
  all_goals go_wp2_with fail
  all_goals (go_ret; exact ⟨ret_int HF.out.symm, 1, _, rfl⟩)
theorem fcmp_lt (rs : List Int) (x y : Nat) : decide (fcmp rs x y < 0) = prec rs x y := by
  rw [Bool.eq_iff_iff, prec_iff, decide_eq_true_eq]
  unfold fcmp orI cmpI
  generalize rs.getD x 0 = a
  generalize rs.getD y 0 = b
  by_cases h1 : b < a
  · simp [h1]
  · by_cases h2 : a < b
    · rw [if_neg h1, if_pos h2, if_neg (by omega)]; omega
    · rw [if_neg h1, if_neg h2, if_pos rfl]
      have : a = b := by omega
      by_cases h3 : (x : Int) < y
      · rw [if_pos h3]; omega
      · rw [if_neg h3]; split <;> omega
theorem fcmp_swo {n : Nat} (rs : List Int) : SWO (ltOf fun x y : Fin n => fcmp rs x.val y.val) where
  irrefl x := by unfold ltOf; rw [fcmp_lt]; rw [Bool.eq_false_iff, ne_eq, prec_iff]; omega
  trans x y z h1 h2 := by unfold ltOf at *; rw [fcmp_lt, prec_iff] at *; omega
  ntrans x y z h1 h2 := by unfold ltOf at *; rw [fcmp_lt, Bool.eq_false_iff, ne_eq, prec_iff] at *; omega
theorem fcmp_tot {n : Nat} (rs : List Int) (x y : Fin n) (h1 : ltOf (fun x y : Fin n => fcmp rs x.val y.val) x y = false) (h2 : ltOf (fun x y : Fin n => fcmp rs x.val y.val) y x = false) : x = y := by
  unfold ltOf at *; rw [fcmp_lt, Bool.eq_false_iff, ne_eq, prec_iff] at *
  exact Fin.ext (by omega)
def encFin {n : Nat} (i : Fin n) : Value := .int .i64 (i.val : Int)
theorem putRow_fin {n : Nat} [Inhabited (Fin n)] (w : World) (blk off : Nat) (d : Array (Fin n)) : putRow encFin w blk off d = putRow (Value.int .i64) w blk off (d.map fun i => (i.val : Int)) := by
  unfold putRow
  congr 1
  funext c
  unfold putCells
  congr 1
  funext k x
  rw [Array.size_map]
  by_cases h : off ≤ k ∧ k < off + d.size
  · rw [if_pos h, if_pos h, getElem!_pos d (k - off) (by omega), getElem!_pos (d.map fun i => (i.val : Int)) (k - off) (by rw [Array.size_map]; omega)]
    rw [Array.getElem_map]; rfl
  · rw [if_neg h, if_neg h]
theorem sortWorld_fin {n : Nat} [Inhabited (Fin n)] (w : World) (blk off m : Nat) (d : Array (Fin n)) (os : Array Obj) : sortWorld encFin w blk off m d os = grow (putRow (Value.int .i64) (Sort.ahead w m) blk off (d.map fun i => (i.val : Int))) os := by
  unfold sortWorld
  rw [putRow_fin]
theorem ord_fin {n : Nat} {rs : List Int} (hn : rs.length = n) : ((List.finRange n).mergeSort fun x y => !ltOf (fun x y : Fin n => fcmp rs x.val y.val) y x).map (fun i => i.val) = ordL rs := by
  rw [ordL, hn]
  rw [List.map_mergeSort (f := fun i : Fin n => i.val) (s := fun i j => !prec rs j i) (fun a _ b _ => by unfold ltOf; rw [fcmp_lt])]
  congr 1
  apply List.ext_getElem (by simp)
  intro i h1 h2
  simp
theorem nums_grown {k : IntKind} {w w' : World} {g n c gs : Nat} {l : List Int} (h : Nums k w (some ⟨g, 0, none⟩) n c l) (hG : w.grownBy w' (some gs)) (hne : g ≠ gs) : Nums k w' (some ⟨g, 0, none⟩) n c l := by
  refine ⟨h.len, h.cap, h.mx, h.wf, fun hn => ?_⟩
  obtain ⟨b, o, e, h2, h3⟩ := h.at_ hn
  injection e with e; injection e with e e'; subst e e'
  refine ⟨g, 0, rfl, Nat.lt_of_lt_of_le h2 hG.size, fun i hi => ?_⟩
  rw [← h3 i hi]
  exact World.cell?_of_block (hG.block g h2 (fun e => hne (by injection e)))
theorem cell_grown {w w' : World} {g gs o : Nat} {v : Value} (h : w.cell? ⟨g, o, none⟩ = some v) (hG : w.grownBy w' (some gs)) (hne : g ≠ gs) : w'.cell? ⟨g, o, none⟩ = some v := by
  rw [← h]
  exact World.cell?_of_block (hG.block g (World.block_lt_of_cell? w _ h) (fun e => hne (by injection e)))
set_option maxHeartbeats 1000000 in
theorem splitSort_c (B g n c gs cs base : Nat) (rs : List Int) (w : World) (hn0 : 0 < n) (hn1 : n ≤ 1048576) (hB : w.cell? ⟨B, 0, none⟩ = some (.slice (some ⟨g, 0, none⟩) n c)) (hr : Nums .u64 w (some ⟨g, 0, none⟩) n c rs)
    (hO : Own .i64 3 w base (some ⟨gs, 0, none⟩) n cs ((List.range n).map fun i : Nat => (i : Int))) (h1 : B ≠ gs) (h2 : g ≠ gs) :
    Calls Tryz.prog 50 #[.slice (some ⟨gs, 0, none⟩) n cs, .func (.func 51) #[] #[.pointer (some ⟨B, 0, none⟩)]] w fun e w' =>
      e = .returned (.tuple #[]) ∧ Own .i64 3 w' base (some ⟨gs, 0, none⟩) n cs ((ordL rs).map fun i : Nat => (i : Int)) ∧ w.grownBy w' (some gs) := by
  haveI : Inhabited (Fin n) := ⟨⟨0, hn0⟩⟩
  have hlen := hr.len
  obtain ⟨a1, ⟨_, a2⟩, a3⟩ := hO
  rcases a2 with ⟨hv, _⟩ | ⟨gs', cap, cur, hv, hbase, hh, hnc, hcm, hsz, htk⟩
  · injection hv with e1; cases e1
  injection hv with e1 e2 e3
  injection e1 with e1
  injection e1 with e1
  subst e1 e3
  have hfr : (List.range n).map (fun i : Nat => (i : Int)) = (List.finRange n).map fun i => (i.val : Int) := by
    apply List.ext_getElem (by simp)
    intro i h1 h2
    simp
  have hH : Holds encFin w gs 0 (List.finRange n).toArray := by
    rw [hfr] at htk
    have hb := holds_of_blockI (ss := (List.finRange n).map fun i => (i.val : Int)) hh (by simpa using htk)
    intro j hj
    have hj' : j < n := by simpa using hj
    obtain ⟨x1, x2⟩ := hb j (by simpa using hj')
    refine ⟨x1.trans ?_, x2⟩
    rw [getElem!_pos ((List.finRange n).map fun i => (i.val : Int)).toArray j (by simpa using hj'), getElem!_pos (List.finRange n).toArray j hj]
    simp [encFin]
  have hlt : gs < w.heap.size := (Array.getElem?_eq_some_iff.1 hh).1
  have eg : ∀ args w, (callFunc 51 args).run Tryz.prog w = .ok (.enter 51 args) w := enters_of Tryz.func51 (by kernel_rfl) rfl
  have hcmp : CmpLays1 Tryz.prog 51 #[.pointer (some ⟨B, 0, none⟩)] encFin (fun x y : Fin n => fcmp rs x.val y.val) gs 0 (List.finRange n).toArray.size w := by
    intro m os dk _ x y
    have hG : w.grownBy (sortWorld encFin w gs 0 m dk os) (some gs) := by rw [sortWorld_fin]; exact grownBy_sortedI _
    refine (splitLess_c B g n c x.val y.val rs (sortWorld encFin w gs 0 m dk os) (cell_grown hB hG h1) (nums_grown hr hG h2) x.isLt y.isLt).mono ?_
    rintro e w' ⟨rfl, q, o, rfl⟩
    exact ⟨rfl, q, #[o], alloc_eq_grow _ _⟩
  have hS := Any.slices_SortFunc_total Tryz.sortFuncI encFin (fun _ => rfl) (fun x y : Fin n => fcmp rs x.val y.val) (fcmp_swo rs) 51 #[.pointer (some ⟨B, 0, none⟩)] gs 0 cs (List.finRange n).toArray w eg hcmp hH hlt (by simp; omega) (fcmp_tot rs)
  change Calls Tryz.prog 50 _ _ _ at hS
  have hsz' : (List.finRange n).toArray.size = n := by simp
  rw [hsz'] at hS
  refine hS.mono ?_
  rintro e w' ⟨rfl, m, os, rfl⟩
  have hmap : ((List.finRange n).toArray.toList.mergeSort fun x y => !ltOf (fun x y : Fin n => fcmp rs x.val y.val) y x).toArray.map (fun i => (i.val : Int)) = ((ordL rs).map fun i : Nat => (i : Int)).toArray := by
    rw [← ord_fin hlen]
    simp
  rw [sortWorld_fin, hmap]
  refine ⟨rfl, ⟨?_, ?_, ?_⟩, grownBy_sortedI _⟩
  · rw [List.length_map, ordL_len, hlen]
  · have := ownsRow_sortedI (w := w) (base := base) (g := gs) (cap := cs) (n := m) (e := 3) (os := os) (cur := cur) (ss := (List.range n).map fun i : Nat => (i : Int)) (ts := (ordL rs).map fun i : Nat => (i : Int)) (by simp [ordL_len, hlen]) hbase hh (by simpa using hnc) hcm hsz
    simpa using this
  · intro x hx
    simp only [List.mem_map] at hx
    obtain ⟨i, hi, rfl⟩ := hx
    have := ordL_mem.1 hi
    exact wf_of_i64 (by omega) (by omega)
end Go.Proofs.YtmeplpiamkaniaaGreat
namespace Go.Proofs.YtmeplpiamkaniaaGreat
set_option linter.unusedVariables false
set_option linter.unusedSimpArgs false
open Go.RowKit
theorem intT3 : IntT Tryz.prog 22 3 .i64 8 := ⟨Tryz.underlying22, by kernel_rfl, by omega⟩
theorem u64T3 : IntT Tryz.prog 63 34 .u64 8 := ⟨Tryz.underlying63, by kernel_rfl, by omega⟩
def SumAt (ws : List Int) (k : Nat) (s : Int) : Prop := s = (ws.take k).sum ∧ ∀ x ∈ ws.take k, okU x = true
theorem SumAt.start (ws : List Int) : SumAt ws 0 0 := ⟨by simp, by simp⟩
theorem SumAt.step {ws : List Int} {k : Nat} {s x : Int} (h : SumAt ws k s) (hx : ws[k]? = some x) (hok : okU x = true) : SumAt ws (k + 1) (s + x) := by
  obtain ⟨hk, rfl⟩ := List.getElem?_eq_some_iff.1 hx
  have e : ws.take (k + 1) = ws.take k ++ [ws[k]] := by rw [List.take_succ_eq_append_getElem hk]
  refine ⟨by rw [e, List.sum_append, h.1]; simp, fun y hy => ?_⟩
  rw [e] at hy
  rcases List.mem_append.1 hy with hy | hy
  · exact h.2 y hy
  · simp at hy; rw [hy]; exact hok
theorem SumAt.all {ws : List Int} {k : Nat} {s : Int} (h : SumAt ws k s) (hk : ws.length ≤ k) : s = ws.sum ∧ ws.all okU = true := by
  obtain ⟨h1, h2⟩ := h
  rw [List.take_of_length_le hk] at h1 h2
  exact ⟨h1, List.all_eq_true.2 h2⟩
theorem SumAt.le {ws : List Int} {k : Nat} {s : Int} (h : SumAt ws k s) (hall : ws.all okU = true) : s ≤ ws.sum := by
  rw [h.1]; exact sum_take_le (fun x hx => (okU_iff.1 (List.all_eq_true.1 hall x hx)).1) k
theorem splitOk_all {t : Int} {ws : List Int} (h : splitOk t ws = true) : ws.all okU = true := by
  simp only [splitOk, Bool.and_eq_true] at h; exact h.2.1
theorem splitOk_fin {t : Int} {ws : List Int} (ht : okU t = true) (h : splitOk t ws = false) (ha : ws.all okU = true) (hs : ws.sum ≤ 1152921504606846976) : ws.sum = 0 := by
  have h0 := sum_nonneg fun x hx => (okU_iff.1 (List.all_eq_true.1 ha x hx)).1
  simp only [splitOk, ht, ha, Bool.true_and, Bool.and_eq_false_iff, decide_eq_false_iff_not] at h
  omega
set_option maxHeartbeats 1000000 in
theorem split_no (t : Int) (A : Option Addr) (n c : Nat) (ws : List Int) (w : World) (h : Nums .i64 w A n c ws) (hno : splitOk t ws = false) :
    Calls Tryz.prog 18 #[.int .i64 t, .slice A n c] w fun e w' => e = .returned (.tuple #[.slice none 0 0, .int .i64 1]) ∧ w = w' := by
  have hm := h.n63
  have HN := Lib.hid hno
  clear hno
  cases ht : okU t
  · go_enter Tryz.func18, Tryz.ntmps18
    go_wp2_with (go_at_call 48; refine (isAmount_c _ _).mono ?_; rintro e w' ⟨rfl, rfl⟩)
    go_ret2
    exact ⟨rfl, rfl⟩
  · go_enter Tryz.func18, Tryz.ntmps18
    go_wp2_with (go_at_call 48; refine (isAmount_c _ _).mono ?_; rintro e w' ⟨rfl, rfl⟩)
    go_loop [6, 23] (fun ts ti => ∃ (k : Nat) (s : Int), k ≤ n ∧ ti = .int .i64 k ∧ ts = .int .i64 s ∧ 0 ≤ s ∧ s ≤ 1152921504606846976 ∧ Hid (SumAt ws k s)) (fun _ ti => n - (intOf ti).toNat)
    case atStart => exact ⟨0, 0, Nat.zero_le _, rfl, rfl, by omega, by omega, SumAt.start ws⟩
    case round =>
      obtain ⟨k, s, hk, rfl, rfl, s0, s1, hS⟩ := hrel
      by_cases hlt : k < n
      · obtain ⟨b, o, x, rfl, hb, hx, hwx, hck⟩ := h.get hlt
        cases hox : okU x
        · clear hx hwx
          go_wp2_with (go_at_call 48; refine (isAmount_c _ _).mono ?_; rintro e w' ⟨rfl, rfl⟩)
          go_ret2
          exact ⟨rfl, rfl⟩
        · have HS := Lib.hid (hS.out.step hx hox)
          obtain ⟨x0, x1⟩ := okU_iff.1 hox
          clear hx hwx
          by_cases hbig : 1152921504606846976 < s + x
          · go_wp2_with (go_at_call 48; refine (isAmount_c _ _).mono ?_; rintro e w' ⟨rfl, rfl⟩)
            go_ret2
            exact ⟨rfl, rfl⟩
          · go_wp2_with (go_at_call 48; refine (isAmount_c _ _).mono ?_; rintro e w' ⟨rfl, rfl⟩)
            go_round
            case rel => exact ⟨k + 1, s + x, by omega, by go_num, rfl, by omega, by omega, HS⟩
            case measure => simp [intOf]; omega
      · obtain ⟨f1, f2⟩ := hS.out.all (by rw [h.len]; omega)
        obtain rfl : s = 0 := by rw [f1]; exact splitOk_fin ht HN.out f2 (by rw [← f1]; exact s1)
        clear f1 f2
        go_wp2_with fail
        go_ret2
        exact ⟨rfl, rfl⟩
def fillL (l : List Int) (n k : Nat) : List Int := l.take k ++ (List.replicate n 0).drop k
theorem fillL_start (l : List Int) (n : Nat) : fillL l n 0 = List.replicate n 0 := by simp [fillL]
theorem fillL_end {l : List Int} {n k : Nat} (h : l.length = n) (hk : n ≤ k) : fillL l n k = l := by
  unfold fillL
  rw [List.take_of_length_le (by omega), List.drop_eq_nil_of_le (by simp; omega), List.append_nil]
theorem fillL_set {l : List Int} {n k : Nat} {x : Int} (h : l.length = n) (hx : l[k]? = some x) : (fillL l n k).set k x = fillL l n (k + 1) := by
  obtain ⟨hk, rfl⟩ := List.getElem?_eq_some_iff.1 hx
  unfold fillL
  have e0 : (List.replicate n (0 : Int))[k]? = some 0 := by rw [List.getElem?_replicate, if_pos (by omega)]
  rw [mid_set (by rw [List.length_take]; omega) e0, ← List.take_succ_eq_append_getElem hk]
theorem Own.keptN {k : IntKind} {T : TypeId} {w w' : World} {base g gs n c : Nat} {l : List Int} (h : Own k T w base (some ⟨g, 0, none⟩) n c l) (hG : w.grownBy w' (some gs)) (hne : g ≠ gs) : Own k T w' base (some ⟨g, 0, none⟩) n c l :=
  ⟨h.1, World.ownsRow.kept h.2.1 hG (.inr (fun e => hne (by simpa [Value.ownBlock] using e))), h.2.2⟩
theorem grown_set (w : World) (g i : Nat) (v : Value) : w.grownBy (w.setCell ⟨g, i, none⟩ v) (some g) :=
  ⟨rfl, rfl, rfl, by simp, fun b _ hne => Below.heap_setCell w ⟨g, i, none⟩ v b (fun e => hne (by rw [e]))⟩
theorem quos_le {t : Int} {ws : List Int} (h : SplitPre t ws) : ∀ x ∈ quos t ws.sum ws, 0 ≤ x ∧ x ≤ t := by
  intro x hx
  refine ⟨quos_nonneg h.t0 h.s0 (fun x hx => (h.w0 x hx).1) x hx, ?_⟩
  simp only [quos, List.mem_map] at hx
  obtain ⟨y, hy, rfl⟩ := hx
  exact part_le h.t0 (le_sum (fun x hx => (h.w0 x hx).1) hy) h.s0
theorem bump_le {l : List Int} {t : Int} (h : ∀ x ∈ l, 0 ≤ x ∧ x ≤ t) {is : List Nat} (hn : is.Nodup) {i : Nat} {y : Int} (hy : (bump l is)[i]? = some y) : 0 ≤ y ∧ y ≤ t + 1 := by
  have hi : i < l.length := by
    obtain ⟨hk, _⟩ := List.getElem?_eq_some_iff.1 hy
    rwa [bump_len] at hk
  have e := bump_get l is hn i hi
  rw [List.getD_eq_getElem?_getD, hy] at e
  have := h _ (getD_mem hi)
  simp at e
  split at e <;> (simp only [List.getD_eq_getElem?_getD] at this; omega)
theorem bump_step {l : List Int} {is : List Nat} {k i : Nat} {y : Int} (hi : is[k]? = some i) (hy : (bump l (is.take k))[i]? = some y) : (bump l (is.take k)).set i (y + 1) = bump l (is.take (k + 1)) := by
  obtain ⟨hk, rfl⟩ := List.getElem?_eq_some_iff.1 hi
  rw [List.take_succ_eq_append_getElem hk, bump_snoc, List.getD_eq_getElem?_getD, hy]; rfl
set_option maxHeartbeats 4000000 in
set_option maxRecDepth 100000 in
theorem split_yes (t : Int) (A : Option Addr) (n c : Nat) (ws : List Int) (w : World) (h : Nums .i64 w A n c ws) (hok : splitOk t ws = true) (hn : n ≤ 1048576) :
    Calls Tryz.prog 18 #[.int .i64 t, .slice A n c] w (RetOwnErr .i64 3 w (splitL t ws, 0)) := by
  have hm := h.n63
  have hpre := splitPre_of hok
  have hall := splitOk_all hok
  have ht : okU t = true := okU_iff.2 ⟨hpre.t0, hpre.t1⟩
  obtain ⟨t0, t1⟩ := okU_iff.1 ht
  have s0 := hpre.s0
  have s1 := hpre.s1
  have hn0 : 0 < n := by
    rcases Nat.eq_zero_or_pos n with h0 | h0
    · have : ws = [] := List.eq_nil_of_length_eq_zero (by rw [h.len, h0])
      rw [this] at s0; simp at s0
    · exact h0
  have HP := Lib.hid hpre
  have HA := Lib.hid hall
  clear hok hpre hall
  go_enter Tryz.func18, Tryz.ntmps18
  go_wp2_with (go_at_call 48; refine (isAmount_c _ _).mono ?_; rintro e w' ⟨rfl, rfl⟩)
  go_loop [6, 23] (fun ts ti => ∃ (k : Nat) (s : Int), k ≤ n ∧ ti = .int .i64 k ∧ ts = .int .i64 s ∧ 0 ≤ s ∧ s ≤ 1152921504606846976 ∧ Hid (SumAt ws k s)) (fun _ ti => n - (intOf ti).toNat)
  case atStart => exact ⟨0, 0, Nat.zero_le _, rfl, rfl, by omega, by omega, SumAt.start ws⟩
  case round =>
    obtain ⟨k, s, hk, rfl, rfl, z0, z1, hS⟩ := hrel
    by_cases hlt : k < n
    · obtain ⟨b, o, x, rfl, hb, hx, hwx, hck⟩ := h.get hlt
      have hox : okU x = true := List.all_eq_true.1 HA.out x (List.mem_of_getElem? hx)
      have HS := Lib.hid (hS.out.step hx hox)
      obtain ⟨x0, x1⟩ := okU_iff.1 hox
      have hle : s + x ≤ 1152921504606846976 := by have := HS.out.le HA.out; omega
      clear hx hwx
      go_wp2_with (go_at_call 48; refine (isAmount_c _ _).mono ?_; rintro e w' ⟨rfl, rfl⟩)
      go_round
      case rel => exact ⟨k + 1, s + x, by omega, by go_num, rfl, by omega, by omega, HS⟩
      case measure => simp [intOf]; omega
    · obtain ⟨f1, _⟩ := hS.out.all (by rw [h.len]; omega)
      have hnI : ((n : Nat) : Int) ≤ 1048576 := by omega
      obtain ⟨S, hSe⟩ : ∃ S, ws.sum = S := ⟨_, rfl⟩
      rw [hSe] at f1 s0 s1
      subst f1
      have HSe := Lib.hid hSe
      have hs0 : (s == 0) = false := by simp; omega
      clear hSe hS
      have tok1 : True := trivial
      go_wp2_with (first
        | (at_make; have _t := tok1; refine wpList_mk intT3 _ rfl _ _ rfl _ _ _ _ n rfl rfl rfl rfl (by omega) ?_; intro w1 hO1 hE1 hz1; clear tok1 _t)
        | (at_make; refine wpList_mk u64T3 _ rfl _ _ rfl _ _ _ _ n rfl rfl rfl rfl (by omega) ?_; intro w2 hO2 hE2 hz2)
        | (at_make; refine wpList_mk intT3 _ rfl _ _ rfl _ _ _ _ n rfl rfl rfl rfl (by omega) ?_; intro w3 hO3 hE3 hz3))
      have hE2a := hE2.alloc (.cells #[.slice (some ⟨w.heap.size + 1, 0, none⟩) n n] 63)
      have hEw : E w w3 := (hE1.trans hE2a).trans hE3
      have O1 : Own .i64 3 w3 w.heap.size (some ⟨w.heap.size, 0, none⟩) n n (List.replicate n 0) := (hO1.e hE2a).e hE3
      have O2 : Own .u64 34 w3 w.heap.size (some ⟨w.heap.size + 1, 0, none⟩) n n (List.replicate n 0) := by
        rw [hz1] at hO2
        exact ((hO2.e ((E.refl _).alloc _)).e hE3).rebase (by omega)
      have O3 : Own .i64 3 w3 w.heap.size (some ⟨w.heap.size + 1 + 1 + 1, 0, none⟩) n n (List.replicate n 0) := by
        simp only [World.size_alloc, hz2, hz1] at hO3
        exact hO3.rebase (by omega)
      have hbox : w3.cell? ⟨w.heap.size + 1 + 1, 0, none⟩ = some (.slice (some ⟨w.heap.size + 1, 0, none⟩) n n) := by
        have hw2 : w2.heap.size = w.heap.size + 1 + 1 := by rw [hz2, hz1]
        rw [hE3.cell (by simp [hw2]), ← hw2]
        exact cell_new _ _ _
      clear hO1 hO2 hO3 hE1 hE2 hE3 hE2a hz1 hz2 hz3
      generalize hg3 : w.heap.size + 1 + 1 + 1 = g3 at *
      generalize hgB : w.heap.size + 1 + 1 = gB at *
      generalize hg2 : w.heap.size + 1 = g2 at *
      generalize hg1 : w.heap.size = g1 at *
      have d12 : g1 ≠ g2 := by omega
      have d1B : g1 ≠ gB := by omega
      have d13 : g1 ≠ g3 := by omega
      have d2B : g2 ≠ gB := by omega
      have d23 : g2 ≠ g3 := by omega
      have dB3 : gB ≠ g3 := by omega
      have l2 : g1 ≤ g2 := by omega
      have l3 : g1 ≤ g3 := by omega
      have HG1 := Lib.hid hg1
      clear hg1 hg2 hgB hg3
      have hql : (quos t s ws).length = n := by rw [quos_len, h.len]
      have hrl : (rems t s ws).length = n := by rw [rems_len, h.len]
      have HQL := Lib.hid hql
      have HRL := Lib.hid hrl
      have hLf := Lib.hid (left_facts (t := t) (ws := ws) HP.out.s0)
      have hLl := Lib.hid (left_le (t := t) (ws := ws) HP.out.s0)
      rw [HSe.out] at hLf hLl
      have HQ0 := Lib.hid (quos_nonneg (t := t) (S := s) t0 s0 (fun x hx => (HP.out.w0 x hx).1))
      clear hql hrl
      go_loopw [12, 50] (fun tl ti wr => ∃ (k : Nat) (L : Int), k ≤ n ∧ ti = .int .i64 k ∧ tl = .int .i64 L ∧ 0 ≤ L ∧ L ≤ t ∧ Hid (L = t - ((quos t s ws).take k).sum) ∧ Own .i64 3 wr g1 (some ⟨g1, 0, none⟩) n n (fillL (quos t s ws) n k) ∧ Own .u64 34 wr g1 (some ⟨g2, 0, none⟩) n n (fillL (rems t s ws) n k) ∧ Own .i64 3 wr g1 (some ⟨g3, 0, none⟩) n n (fillL ((List.range n).map fun i : Nat => (i : Int)) n k) ∧ wr.cell? ⟨gB, 0, none⟩ = some (.slice (some ⟨g2, 0, none⟩) n n) ∧ E w wr) (fun _ ti _ => n - (intOf ti).toNat)
      case atStart => exact ⟨0, t, Nat.zero_le _, rfl, rfl, t0, Int.le_refl _, show _ = _ by simp, by rw [fillL_start]; exact O1, by rw [fillL_start]; exact O2, by rw [fillL_start]; exact O3, hbox, hEw⟩
      case round =>
        clear O1 O2 O3 hbox hEw
        obtain ⟨j, L, hj, rfl, rfl, L0, L1, HL, O1, O2, O3, hbox, hE⟩ := hrel
        by_cases hjn : j < n
        · obtain ⟨b, o, x, hA, hb, hx, hwx, hck⟩ := (h.e hE).get hjn
          subst hA
          have hxm := List.mem_of_getElem? hx
          obtain ⟨x0, x1⟩ := HP.out.w0 x hxm
          have hxs : x ≤ s := by have := le_sum (fun y hy => (HP.out.w0 y hy).1) hxm; rwa [HSe.out] at this
          have hqle := part_le t0 hxs s0
          have hdok : divOk t x s = true := divOk_iff.2 ⟨⟨t0, t1⟩, ⟨x0, by omega⟩, s0, s1⟩
          have hfit : divFit t x s = true := by simp only [divFit, decide_eq_true_eq]; omega
          have hq : divQ t x s = t * x / s := by simp [divQ, hdok, hfit]
          have hr : divR t x s = t * x % s := by simp [divR, hdok, hfit]
          have hee : divE t x s = 0 := by simp [divE, hdok, hfit]
          have hq0 := Int.ediv_nonneg (Int.mul_nonneg t0 x0) (Int.le_of_lt s0)
          have hr0 := Int.emod_nonneg (t * x) (show s ≠ 0 by omega)
          have hr1 := Int.emod_lt_of_pos (t * x) s0
          have HD := Lib.hid (divide_c t x s wr)
          rw [hq, hr, hee] at HD
          have hqk : (quos t s ws)[j]? = some (t * x / s) := by simp [quos, hx]
          have hrk : (rems t s ws)[j]? = some (t * x % s) := by simp [rems, hx]
          have HFQ := Lib.hid (fillL_set HQL.out hqk)
          have HFR := Lib.hid (fillL_set HRL.out hrk)
          have HFO := Lib.hid (fillL_set (l := (List.range n).map fun i : Nat => (i : Int)) (n := n) (k := j) (x := (j : Int)) (by simp) (by rw [List.getElem?_map, List.getElem?_range hjn]; rfl))
          have HLs := Lib.hid (show L - t * x / s = t - ((quos t s ws).take (j + 1)).sum by
            obtain ⟨hk', e'⟩ := List.getElem?_eq_some_iff.1 hqk
            rw [List.take_succ_eq_append_getElem hk', List.sum_append, e', HL.out]; simp; omega)
          have hLn : 0 ≤ L - t * x / s := by
            have a1 := sum_take_le HQ0.out (j + 1)
            have a2 := hLf.out.1
            have a3 := HLs.out
            omega
          clear hx hwx hxm hdok hfit hq hr hee hqk hrk
          generalize t * x / s = q at *
          generalize t * x % s = r at *
          go_wp2_with fail
          refine HD.out.mono ?_
          rintro e w' ⟨rfl, hQ⟩
          replace O1 := O1.q hQ
          replace O2 := O2.q hQ
          replace O3 := O3.q hQ
          have hbx : w'.cell? ⟨gB, 0, none⟩ = some (.slice (some ⟨g2, 0, none⟩) n n) := (E.of_q hQ).cell (World.block_lt_of_cell? _ _ hbox) ▸ hbox
          replace hE := hE.q hQ
          obtain ⟨_, _, _, _, _, c1, f1⟩ := O1.getg hjn
          obtain ⟨_, _, _, _, _, c2, f2⟩ := O2.getg hjn
          obtain ⟨_, _, _, _, _, c3, f3⟩ := O3.getg hjn
          clear hbox hck
          have hjI : (j : Int) < (n : Int) := by omega
          go_wp2_with fail
          go_region
          go_wp2_with fail
          have G1 := grown_set w' g1 j (.int .i64 q)
          have G2 := grown_set (w'.setCell ⟨g1, j, none⟩ (.int .i64 q)) g2 j (.int .u64 r)
          have G3 := grown_set ((w'.setCell ⟨g1, j, none⟩ (.int .i64 q)).setCell ⟨g2, j, none⟩ (.int .u64 r)) g3 j (.int .i64 (j : Int))
          have P1 := ((O1.set j q (wf_of_i64 (by omega) (by omega))).keptN G2 d12).keptN G3 d13
          have P2 := ((O2.keptN G1 d12.symm).set j r (WalkArith.wf_u64 ⟨by omega, by omega⟩)).keptN G3 d23
          have P3 := ((O3.keptN G1 d13.symm).keptN G2 d23.symm).set j (j : Int) (wf_of_i64 (by omega) (by omega))
          have PB := cell_grown (cell_grown (cell_grown hbx G1 d1B.symm) G2 d2B.symm) G3 dB3
          rw [HFQ.out] at P1
          rw [HFR.out] at P2
          rw [HFO.out] at P3
          have hle1 : w.heap.size ≤ g1 := by rw [HG1.out]; exact Nat.le_refl _
          have PE := ((hE.setCell (p := ⟨g1, j, none⟩) hle1 (.int .i64 q)).setCell (p := ⟨g2, j, none⟩) (Nat.le_trans hle1 l2) (.int .u64 r)).setCell (p := ⟨g3, j, none⟩) (Nat.le_trans hle1 l3) (.int .i64 (j : Int))
          generalize ((w'.setCell ⟨g1, j, none⟩ (.int .i64 q)).setCell ⟨g2, j, none⟩ (.int .u64 r)).setCell ⟨g3, j, none⟩ (.int .i64 (j : Int)) = wz at *
          have Qd := (Q.refl wz).drew
          clear G1 G2 G3
          go_roundw
          case rel => exact ⟨j + 1, L - q, by omega, by go_num, rfl, hLn, by omega, HLs, P1.q Qd, P2.q Qd, P3.q Qd, PB, PE.q Qd⟩
          case measure => simp [intOf]; omega
        · rw [fillL_end HQL.out (by omega)] at O1
          rw [fillL_end HRL.out (by omega)] at O2
          rw [fillL_end (by simp) (by omega)] at O3
          have hLe : L = t - (quos t s ws).sum := by rw [HL.out, List.take_of_length_le (by rw [HQL.out]; omega)]
          have hLn : L.toNat = leftS t s ws := by rw [hLe]; rfl
          have hLN : L.toNat ≤ n := by rw [hLn, ← h.len]; exact hLl.out
          obtain ⟨M, hM⟩ : ∃ M : Nat, L = M := ⟨L.toNat, by omega⟩
          subst hM
          rw [Int.toNat_natCast] at hLn hLN
          have HLM := Lib.hid hLn
          clear hLn hLe HL
          have HSo := Lib.hid (splitSort_c gB g2 n n g3 n g1 (rems t s ws) wr hn0 hn hbox O2.reads O3 dB3 d23)
          go_wp2_with fail
          refine HSo.out.mono ?_
          rintro e w5 ⟨rfl, P3, hG⟩
          have P1 := O1.keptN hG d13
          have hE5 := hE.grown hG (fun k hk => by injection hk with hk; rw [← hk, HG1.out]; exact l3)
          clear HSo O1 O2 O3 hbox hE hG
          have HOL := Lib.hid (show (ordL (rems t s ws)).length = n by rw [ordL_len, HRL.out])
          have HQr := Lib.hid (quos_le HP.out)
          rw [HSe.out] at HQr
          have HFin := Lib.hid (show (splitL t ws, (0 : Int)) = (bump (quos t s ws) ((ordL (rems t s ws)).take M), 0) by unfold splitL; rw [HSe.out, HLM.out])
          go_wp2_with fail
          go_loopw [86] (fun ti wr => ∃ i : Nat, i ≤ M ∧ ti = .int .i64 i ∧ Own .i64 3 wr g1 (some ⟨g1, 0, none⟩) n n (bump (quos t s ws) ((ordL (rems t s ws)).take i)) ∧ Own .i64 3 wr g1 (some ⟨g3, 0, none⟩) n n ((ordL (rems t s ws)).map fun i : Nat => (i : Int)) ∧ E w wr) (fun ti _ => M - (intOf ti).toNat)
          case atStart => exact ⟨0, Nat.zero_le _, rfl, by simpa [bump] using P1, P3, hE5⟩
          case round =>
            clear P1 P3 hE5
            obtain ⟨i, hi, rfl, P1, P3, hE⟩ := hrel
            by_cases him : i < M
            · obtain ⟨x, _, _, hx, _, c3, f3⟩ := P3.getg (i := i) (by omega)
              rw [List.getElem?_map] at hx
              obtain ⟨m, hm', hxm⟩ := Option.map_eq_some_iff.1 hx
              subst hxm
              have hmn : m < n := by have := ordL_mem.1 (List.mem_of_getElem? hm'); rwa [HRL.out] at this
              obtain ⟨y, _, _, hy, _, c1, f1⟩ := P1.getg hmn
              obtain ⟨y0, y1⟩ := bump_le HQr.out ((ordL_nodup _).sublist (List.take_sublist _ _)) hy
              have HB := Lib.hid (bump_step hm' hy)
              have hmI : (m : Int) < (n : Int) := by omega
              have hiI : (i : Int) < (n : Int) := by omega
              clear hx hm' hy
              go_wp2_with fail
              have G1 := grown_set wr g1 m (.int .i64 (y + 1))
              have P1' := P1.set m (y + 1) (wf_of_i64 (by omega) (by omega))
              have P3' := P3.keptN G1 d13.symm
              rw [HB.out] at P1'
              have PE := hE.setCell (p := ⟨g1, m, none⟩) (show w.heap.size ≤ g1 by rw [HG1.out]; exact Nat.le_refl _) (.int .i64 (y + 1))
              clear G1
              go_roundw
              case rel => exact ⟨i + 1, by omega, by go_num, P1', P3', PE⟩
              case measure => simp [intOf]; omega
            · obtain rfl : i = M := by omega
              go_wp2_with fail
              go_ret2
              exact RetOwnErr.mk_ HFin.out (HG1.out ▸ P1) hE
theorem split_c (t : Int) (A : Option Addr) (n c : Nat) (ws : List Int) (w : World) (h : Nums .i64 w A n c ws) (hn : n ≤ 1048576) :
    Calls Tryz.prog 18 #[.int .i64 t, .slice A n c] w (RetOwnErr .i64 3 w (splitS t ws)) := by
  unfold splitS
  cases hok : splitOk t ws
  · refine (split_no t A n c ws w h hok).mono ?_
    rintro e w' ⟨rfl, rfl⟩
    exact RetOwnErr.mk_ rfl (Own.nil _ _ _ _) (E.refl _)
  · exact split_yes t A n c ws w h hok hn
end Go.Proofs.YtmeplpiamkaniaaGreat
namespace Go.Proofs.YtmeplpiamkaniaaGreat
set_option linter.unusedVariables false
set_option linter.unusedSimpArgs false
open Go.RowKit
set_option maxHeartbeats 400000 in
theorem refSum_c (A : Option Addr) (n c : Nat) (l : List Int) (w : World) (h : Nums .i64 w A n c l) (hn : n ≤ 1048576) (hl : ∀ x ∈ l, 0 ≤ x ∧ x ≤ 1099511627777) :
    Calls Tryz.prog 55 #[.slice A n c] w fun e w' => e = .returned (.int .i64 l.sum) ∧ w = w' := by
  have hm := h.n63
  have HL := Lib.hid hl
  clear hl
  go_enter Tryz.func55, Tryz.ntmps55
  go_wp2
  go_loop [3, 4] (fun ts ti => ∃ (k : Nat) (s : Int), k ≤ n ∧ ti = .int .i64 k ∧ ts = .int .i64 s ∧ 0 ≤ s ∧ s ≤ 1099511627777 * (k : Int) ∧ Hid (s = (l.take k).sum)) (fun _ ti => n - (intOf ti).toNat)
  case atStart => exact ⟨0, 0, Nat.zero_le _, rfl, rfl, by omega, by omega, show _ = _ by simp⟩
  case round =>
    obtain ⟨k, s, hk, rfl, rfl, s0, s1, hS⟩ := hrel
    by_cases hlt : k < n
    · obtain ⟨b, o, x, rfl, hb, hx, hwx, hck⟩ := h.get hlt
      obtain ⟨x0, x1⟩ := HL.out x (List.mem_of_getElem? hx)
      have HS := Lib.hid (show s + x = (l.take (k + 1)).sum by
        obtain ⟨hk', rfl⟩ := List.getElem?_eq_some_iff.1 hx
        rw [List.take_succ_eq_append_getElem hk', List.sum_append, hS.out]; simp)
      clear hx hwx
      go_wp2
      go_round
      case rel => exact ⟨k + 1, s + x, by omega, by go_num, rfl, by omega, by omega, HS⟩
      case measure => simp [intOf]; omega
    · have HF := Lib.hid (show s = l.sum by rw [hS.out, List.take_of_length_le (by rw [h.len]; omega)])
      go_wp2
      go_ret
      exact ⟨ret_int HF.out, rfl⟩
def wgt (x : Int) : Int := if x % 1099511627777 % 3 = 0 then x % 1099511627777 / 3 % 5 else x % 1099511627777
def wgts (l : List Int) : List Int := (l.take 6).map wgt
def weightsL (l : List Int) : List Int := if (wgts l).sum = 0 then wgts l ++ [1] else wgts l
theorem wgt_range (x : Int) : 0 ≤ wgt x ∧ wgt x ≤ 1099511627776 := by unfold wgt; split <;> omega
theorem wgts_range {l : List Int} : ∀ x ∈ wgts l, 0 ≤ x ∧ x ≤ 1099511627776 := by
  intro x hx
  simp only [wgts, List.mem_map] at hx
  obtain ⟨y, _, rfl⟩ := hx
  exact wgt_range y
theorem wgts_len (l : List Int) : (wgts l).length = min 6 l.length := by simp [wgts]
theorem weightsL_len (l : List Int) : (weightsL l).length ≤ 7 := by
  unfold weightsL
  have := wgts_len l
  split
  · simp; omega
  · omega
theorem weightsL_range {l : List Int} : ∀ x ∈ weightsL l, 0 ≤ x ∧ x ≤ 1099511627776 := by
  intro x hx
  unfold weightsL at hx
  split at hx
  · rcases List.mem_append.1 hx with hx | hx
    · exact wgts_range x hx
    · simp at hx; omega
  · exact wgts_range x hx
theorem weightsL_sum (l : List Int) : 0 < (weightsL l).sum ∧ (weightsL l).sum ≤ 1152921504606846976 := by
  have h1 := sum_nonneg fun x hx => (weightsL_range (l := l) x hx).1
  have key : ∀ (l : List Int), (∀ x ∈ l, 0 ≤ x ∧ x ≤ 1099511627776) → l.sum ≤ 1099511627776 * (l.length : Int) := by
    intro l
    induction l with
    | nil => simp
    | cons a l ih =>
      intro h
      have := ih fun x hx => h x (by simp [hx])
      have := h a (by simp)
      rw [List.sum_cons, List.length_cons]; omega
  have h2 := key _ (weightsL_range (l := l))
  have h3 := weightsL_len l
  refine ⟨?_, by omega⟩
  unfold weightsL
  have h4 := sum_nonneg fun x hx => (wgts_range (l := l) x hx).1
  split
  · rw [List.sum_append]; simp; omega
  · omega
theorem weightsL_pre {t : Int} (h0 : 0 ≤ t) (h1 : t ≤ 1099511627776) (l : List Int) : SplitPre t (weightsL l) := ⟨h0, h1, weightsL_range, (weightsL_sum l).1, (weightsL_sum l).2⟩
theorem wgts_snoc {l : List Int} {k : Nat} {x : Int} (h : l[k]? = some x) : (l.take (k + 1)).map wgt = (l.take k).map wgt ++ [wgt x] := by
  obtain ⟨hk, rfl⟩ := List.getElem?_eq_some_iff.1 h
  rw [List.take_succ_eq_append_getElem hk, List.map_append]; rfl
set_option maxHeartbeats 1000000 in
theorem refWeights_c (A : Option Addr) (n c : Nat) (l : List Int) (w : World) (h : Nums .i64 w A n c l) :
    Calls Tryz.prog 19 #[.slice A n c] w (RetOwn .i64 3 w (weightsL l)) := by
  have hm := h.n63
  go_enter Tryz.func19, Tryz.ntmps19
  go_wp2
  go_loopw [3, 4] (fun tv ti wr => ∃ (k c' : Nat) (A' : Option Addr), k ≤ n ∧ k ≤ 6 ∧ ti = .int .i64 k ∧ tv = .slice A' k c' ∧ Own .i64 3 wr w.heap.size A' k c' ((l.take k).map wgt) ∧ E w wr) (fun _ ti _ => n - (intOf ti).toNat)
  case atStart => exact ⟨0, 0, none, Nat.zero_le _, by omega, rfl, rfl, by simpa using Own.nil _ _ _ _, E.refl _⟩
  case round =>
    obtain ⟨k, c', A', hk, hk6, rfl, rfl, hown, hE⟩ := hrel
    have hle := hE.le
    obtain ⟨wi, rfl⟩ : ∃ wo : World, wo = wr := ⟨_, rfl⟩
    by_cases hlt : k < n
    · by_cases h6 : k < 6
      · have h6I : (k : Int) < 6 := by omega
        obtain ⟨b, o, x, rfl, hb, hx, hwx, hck⟩ := (h.e hE).get hlt
        obtain ⟨x0, x1⟩ := wf_i64 hwx
        have HS := Lib.hid (wgts_snoc hx)
        obtain ⟨y, hy⟩ : ∃ y, x % 1099511627777 = y := ⟨_, rfl⟩
        have m0 : 0 ≤ y := by omega
        have m1 : y ≤ 1099511627776 := by omega
        clear hx hwx
        by_cases h3 : y % 3 = 0
        · have b3 : (y % 3 == 0) = true := by simpa using h3
          have HV := Lib.hid (show wgt x = y / 3 % 5 by rw [wgt, hy, if_pos h3])
          clear h3
          go_wp2_with (first
            | (go_at_call 17; refine (aroundR _ _ _ x0 x1 (by omega) (by omega)).mono ?_; rintro e w' ⟨rfl, rfl⟩)
            | (at_builtin; refine wpList_app1n intT3 _ rfl _ _ rfl _ _ _ _ _ rfl hown _ rfl (wf_of_i64 (by omega) (by omega)) (by omega) hle ?_; intro g' c2 w1 hO hG hB hor))
          rw [← HV.out, ← HS.out] at hO
          go_roundw
          case rel => exact ⟨k + 1, c2, _, by omega, by omega, by go_num, rfl, hO, hE.up hB⟩
          case measure => simp [intOf]; omega
        · have b3 : (y % 3 == 0) = false := by simpa using h3
          have HV := Lib.hid (show wgt x = y by rw [wgt, hy, if_neg h3])
          clear h3
          go_wp2_with (first
            | (go_at_call 17; refine (aroundR _ _ _ x0 x1 (by omega) (by omega)).mono ?_; rintro e w' ⟨rfl, rfl⟩)
            | (at_builtin; refine wpList_app1n intT3 _ rfl _ _ rfl _ _ _ _ _ rfl hown _ rfl (wf_of_i64 (by omega) (by omega)) (by omega) hle ?_; intro g' c2 w1 hO hG hB hor))
          rw [← HV.out, ← HS.out] at hO
          go_roundw
          case rel => exact ⟨k + 1, c2, _, by omega, by omega, by go_num, rfl, hO, hE.up hB⟩
          case measure => simp [intOf]; omega
      · have h6I : ¬ (k : Int) < 6 := by omega
        have hfin : (l.take k).map wgt = wgts l := by
          unfold wgts
          congr 1
          rcases Nat.lt_or_ge k 6 with h6' | h6'
          · rw [List.take_of_length_le (show l.length ≤ k by rw [h.len]; omega), List.take_of_length_le (show l.length ≤ 6 by rw [h.len]; omega)]
          · rw [show k = 6 by omega]
        rw [hfin] at hown
        have hlen := hown.1
        by_cases hz : (wgts l).sum = 0
        · have HS := Lib.hid (refSum_c A' k c' (wgts l) wi hown.reads (by omega) (fun x hx => by have := wgts_range x hx; omega))
          rw [hz] at HS
          have HF := Lib.hid (show weightsL l = wgts l ++ [1] by rw [weightsL, if_pos hz])
          clear hz hfin hlen
          go_wp2_with (first
            | (go_at_call 55; refine HS.out.mono ?_; rintro e w' ⟨rfl, rfl⟩)
            | (at_builtin; refine wpList_app1n intT3 _ rfl _ _ rfl _ _ _ _ _ rfl hown _ rfl (wf_of_i64 (by omega) (by omega)) (by omega) hle ?_; intro g' c2 w1 hO hG hB hor))
          go_ret
          exact RetOwn.mk_ HF.out hO (hE.up hB)
        · have HS := Lib.hid (refSum_c A' k c' (wgts l) wi hown.reads (by omega) (fun x hx => by have := wgts_range x hx; omega))
          have HF := Lib.hid (show weightsL l = wgts l by rw [weightsL, if_neg hz])
          have hz0 : ((wgts l).sum == 0) = false := by simpa using hz
          clear hz hfin hlen
          generalize (wgts l).sum = S at *
          go_wp2_with (go_at_call 55; refine HS.out.mono ?_; rintro e w' ⟨rfl, rfl⟩)
          go_ret
          exact RetOwn.mk_ HF.out hown hE
    ·
      have hfin : (l.take k).map wgt = wgts l := by
        unfold wgts
        congr 1
        rcases Nat.lt_or_ge k 6 with h6' | h6'
        · rw [List.take_of_length_le (show l.length ≤ k by rw [h.len]; omega), List.take_of_length_le (show l.length ≤ 6 by rw [h.len]; omega)]
        · rw [show k = 6 by omega]
      rw [hfin] at hown
      have hlen := hown.1
      by_cases hz : (wgts l).sum = 0
      · have HS := Lib.hid (refSum_c A' k c' (wgts l) wi hown.reads (by omega) (fun x hx => by have := wgts_range x hx; omega))
        rw [hz] at HS
        have HF := Lib.hid (show weightsL l = wgts l ++ [1] by rw [weightsL, if_pos hz])
        clear hz hfin hlen
        go_wp2_with (first
          | (go_at_call 55; refine HS.out.mono ?_; rintro e w' ⟨rfl, rfl⟩)
          | (at_builtin; refine wpList_app1n intT3 _ rfl _ _ rfl _ _ _ _ _ rfl hown _ rfl (wf_of_i64 (by omega) (by omega)) (by omega) hle ?_; intro g' c2 w1 hO hG hB hor))
        go_ret
        exact RetOwn.mk_ HF.out hO (hE.up hB)
      · have HS := Lib.hid (refSum_c A' k c' (wgts l) wi hown.reads (by omega) (fun x hx => by have := wgts_range x hx; omega))
        have HF := Lib.hid (show weightsL l = wgts l by rw [weightsL, if_neg hz])
        have hz0 : ((wgts l).sum == 0) = false := by simpa using hz
        clear hz hfin hlen
        generalize (wgts l).sum = S at *
        go_wp2_with (go_at_call 55; refine HS.out.mono ?_; rintro e w' ⟨rfl, rfl⟩)
        go_ret
        exact RetOwn.mk_ HF.out hown hE
theorem q1 : divQ 10 2 3 = 6 := by decide
theorem e1' : divE 10 2 3 = 0 := by decide
theorem q2 : ceilQ 10 2 3 = 7 := by decide
theorem e2' : ceilE 10 2 3 = 0 := by decide
end Go.Proofs.YtmeplpiamkaniaaGreat
namespace Go.Proofs.YtmeplpiamkaniaaGreat
set_option linter.unusedVariables false
set_option linter.unusedSimpArgs false
open Go.RowKit Go.Shelf
theorem splitL_le {t : Int} {ws : List Int} (h : SplitPre t ws) (ht : t ≤ ws.sum) {i : Nat} (hi : i < ws.length) : (splitL t ws).getD i 0 ≤ ws.getD i 0 := by
  obtain ⟨_, h2⟩ := splitL_quota h hi
  have hw := (h.w0 _ (getD_mem hi)).1
  rw [Int.mul_comm] at h2
  by_cases hr : 0 < ws.getD i 0 * t % ws.sum
  · rw [if_pos hr] at h2
    have := ceil_le hw ht h.s0 hr
    omega
  · rw [if_neg hr] at h2
    have := part_le hw ht h.s0
    omega
def nums (l : List Lt) : List Int := l.map fun x => x.2.2
theorem nums_len (l : List Lt) : (nums l).length = l.length := by simp [nums]
def countK (l : List Lt) (n : Int) (mixed : Bool) : List Int := if mixed = true ∧ 0 < n then splitL n (nums l) else firstK n l
def takeS (l : List Lt) (n : Int) (mixed : Bool) : List Lt × List Lt × Int :=
  if validB l = false ∨ n < 0 ∨ 1099511627776 < n then ([], [], 1) else if totL l < n then ([], [], 10) else (putL [] (sel true (pcs l (countK l n mixed))), putL [] (sel false (pcs l (countK l n mixed))), 0)
theorem split_pre {l : List Lt} {n : Int} (hl : ∀ x ∈ l, possB x = true) (hlen : l.length ≤ 4096) (h0 : 0 < n) (h1 : n ≤ 1099511627776) (ht : n ≤ totL l) : SplitPre n (nums l) := by
  have h2 := totL_le hl
  refine ⟨by omega, h1, fun x hx => ?_, ?_, ?_⟩
  · obtain ⟨y, hy, rfl⟩ := List.mem_map.1 hx
    have := possB_iff.1 (hl y hy)
    omega
  · show 0 < totL l; omega
  · show totL l ≤ _; omega
theorem split_range {l : List Lt} {n : Int} (hp : SplitPre n (nums l)) (ht : n ≤ totL l) : ∀ (i : Nat) (x : Lt) (k : Int), l[i]? = some x → (splitL n (nums l))[i]? = some k → 0 ≤ k ∧ k ≤ x.2.2 := fun i x k hx hk => by
  have hi : i < (nums l).length := by rw [nums_len]; exact (List.getElem?_eq_some_iff.1 hx).1
  have h1 := splitL_le hp ht hi
  rw [List.getD_eq_getElem?_getD, List.getD_eq_getElem?_getD, hk, nums, List.getElem?_map, hx] at h1
  exact ⟨(splitL_range hp k (List.mem_of_getElem? hk)).1, h1⟩
def PkSt (ks : List Int) (bp : Nat) (_ : Nat) (w : World) : Prop := ∃ A n c, w.heap[bp]? = some (.cells #[.slice A n c] 22 (0, 0)) ∧ Nums .i64 w A n c ks ∧ (0 < n → ∀ b, ob A = some b → b < bp)
set_option maxHeartbeats 1000000 in
theorem take1_c (ks : List Int) (bp i : Nat) (k : Int) (w : World) (hk : ks[i]? = some k) (hS : PkSt ks bp i w) :
    Calls Tryz.prog 59 #[.int .i64 i, ptr bp] w fun e w' => e = .returned (.int .i64 k) ∧ PkSt ks bp (i + 1) w' ∧ Ex (fun _ => False) w w' := by
  have HS := Lib.hid hS
  obtain ⟨A, n, c, s1, s2, _⟩ := hS
  have hi : i < n := by rw [← s2.len]; exact (List.getElem?_eq_some_iff.1 hk).1
  have hm := s2.n63
  obtain ⟨b, o, x, rfl, hb, hx, hwx, hcx⟩ := s2.get hi
  rw [hk] at hx
  injection hx with hx
  subst hx
  have cb := (cell_one s1).1
  have hiI : (i : Int) < (n : Int) := by omega
  clear s1 s2 hk
  unfold ptr
  go_enter Tryz.func59, Tryz.ntmps59
  go_wp2_with fail
  go_ret
  exact ⟨rfl, HS.out, Ex.refl _ _⟩
theorem take_counter (ks : List Int) (bp : Nat) : Counter 59 [ptr bp] ks (bp + 1) (fun _ => False) (PkSt ks bp) where
  enters := Tryz.call59
  ylt := fun b hb => hb.elim
  keep := fun i w w' hS hk => by
    obtain ⟨A, n, c, s1, s2, s3⟩ := hS
    refine ⟨A, n, c, (hk bp (by omega)).trans s1, ⟨s2.len, s2.cap, s2.mx, s2.wf, fun h => ?_⟩, s3⟩
    obtain ⟨b, o, e, hb, hc⟩ := s2.at_ h
    have hbb := hk b (by have := s3 h b (by rw [e]; rfl); omega)
    exact ⟨b, o, e, lt_blk (o := w.heap[b]) (by rw [hbb]; exact Array.getElem?_eq_getElem hb), fun i hi => (World.cell?_of_block hbb).trans (hc i hi)⟩
  step := fun i k w hk hS _ => take1_c ks bp i k w hk hS
def RetTk (w : World) (r : List Lt × List Lt × Int) (e : Ending) (w' : World) : Prop :=
  ∃ A1 n1 c1 A2 n2 c2, e = .returned (.tuple #[.slice A1 n1 c1, .slice A2 n2 c2, .int .i64 r.2.2]) ∧ OwnL w' w.heap.size A1 n1 c1 r.1 ∧ OwnL w' w.heap.size A2 n2 c2 r.2.1 ∧ E w w'
theorem RetTk.none_ {w w' : World} {r : List Lt × List Lt × Int} {e : Int} (hr : r = ([], [], e)) (hE : E w w') : RetTk w r (.returned (.tuple #[.slice none 0 0, .slice none 0 0, .int .i64 e])) w' :=
  ⟨none, 0, 0, none, 0, 0, by rw [hr], by rw [hr]; exact OwnL.nil _ _, by rw [hr]; exact OwnL.nil _ _, hE⟩
theorem RetTk.mk_ {w w' : World} {r : List Lt × List Lt × Int} {l1 l2 : List Lt} {A1 A2 : Option Addr} {n1 c1 n2 c2 : Nat} {e : Int} (hr : r = (l1, l2, e)) (h1 : OwnL w' w.heap.size A1 n1 c1 l1) (h2 : OwnL w' w.heap.size A2 n2 c2 l2) (hE : E w w') : RetTk w r (.returned (.tuple #[.slice A1 n1 c1, .slice A2 n2 c2, .int .i64 e])) w' :=
  ⟨A1, n1, c1, A2, n2, c2, by rw [hr], by rw [hr]; exact h1, by rw [hr]; exact h2, hE⟩
set_option maxHeartbeats 8000000 in
set_option maxRecDepth 100000 in
theorem take_no (m : Int) (mixed : Bool) (A : Option Addr) (n c : Nat) (l : List Lt) (w : World) (h : LotsAt w A n c l) (hno : validB l = false ∨ m < 0 ∨ 1099511627776 < m ∨ totL l < m) :
    Calls Tryz.prog 20 #[.slice A n c, .int .i64 m, .bool mixed] w (RetTk w (takeS l m mixed)) := by
  have HV := Lib.hid (valid_c A n c l w h)
  have HT := Lib.hid (fun W (hE : E w W) => total_c A n c l W (h.e hE))
  cases hv : validB l
  · rw [hv] at HV
    have HF := Lib.hid (show takeS l m mixed = ([], [], 1) by rw [takeS, if_pos (.inl hv)])
    generalize takeS l m mixed = r at *
    clear hv hno
    go_enter Tryz.func20, Tryz.ntmps20
    go_wp2_with fail
    refine HV.out.mono ?_
    rintro e w2 ⟨rfl, hE2⟩
    go_wp2_with fail
    go_ret3
    exact RetTk.none_ HF.out hE2
  · rw [hv] at HV
    by_cases ha : m < 0
    · have HF := Lib.hid (show takeS l m mixed = ([], [], 1) by rw [takeS, if_pos (.inr (.inl ha))])
      generalize takeS l m mixed = r at *
      have da : decide (m < 0) = true := by simpa using ha
      clear hv hno
      go_enter Tryz.func20, Tryz.ntmps20
      go_wp2_with fail
      refine HV.out.mono ?_
      rintro e w2 ⟨rfl, hE2⟩
      go_wp2_with fail
      go_ret3
      exact RetTk.none_ HF.out hE2
    · have da : decide (m < 0) = false := by simpa using ha
      by_cases hb : 1099511627776 < m
      · have HF := Lib.hid (show takeS l m mixed = ([], [], 1) by rw [takeS, if_pos (.inr (.inr hb))])
        generalize takeS l m mixed = r at *
        have db : decide (1099511627776 < m) = true := by simpa using hb
        clear hv hno
        go_enter Tryz.func20, Tryz.ntmps20
        go_wp2_with fail
        refine HV.out.mono ?_
        rintro e w2 ⟨rfl, hE2⟩
        go_wp2_with fail
        go_ret3
        exact RetTk.none_ HF.out hE2
      · have db : decide (1099511627776 < m) = false := by simpa using hb
        have htm : totL l < m := by
          rcases hno with h | h | h | h
          · rw [hv] at h; cases h
          · exact absurd h ha
          · exact absurd h hb
          · exact h
        have HF := Lib.hid (show takeS l m mixed = ([], [], 10) by
          rw [takeS, if_neg (by rw [hv]; rintro (h1 | h1 | h1) <;> first | exact ha h1 | exact hb h1 | cases h1), if_pos htm])
        have htot : totalS l = totL l := by rw [totalS, hv]; rfl
        rw [htot] at HT
        generalize takeS l m mixed = r at *
        generalize totL l = T at *
        have dT : decide (T < m) = true := by simpa using htm
        clear hv hno htot
        go_enter Tryz.func20, Tryz.ntmps20
        go_wp2_with fail
        refine HV.out.mono ?_
        rintro e w2 ⟨rfl, hE2⟩
        go_wp2_with fail
        refine (HT.out _ hE2).mono ?_
        rintro e w3 ⟨rfl, hE3⟩
        go_wp2_with fail
        go_ret3
        exact RetTk.none_ HF.out (hE2.trans hE3)
end Go.Proofs.YtmeplpiamkaniaaGreat
namespace Go.Proofs.YtmeplpiamkaniaaGreat
set_option linter.unusedVariables false
set_option linter.unusedSimpArgs false
open Go.RowKit Go.Shelf
theorem takeS_yes {l : List Lt} {m : Int} {mixed : Bool} (hv : validB l = true) (h0 : 0 ≤ m) (h1 : m ≤ 1099511627776) (ht : m ≤ totL l) : takeS l m mixed = (putL [] (sel true (pcs l (countK l m mixed))), putL [] (sel false (pcs l (countK l m mixed))), 0) := by
  rw [takeS, if_neg (by rw [hv]; rintro (h | h | h) <;> first | omega | cases h), if_neg (by omega)]
theorem pos_of {l : List Lt} (hl : ∀ x ∈ l, possB x = true) : ∀ x ∈ l, 1 ≤ x.2.2 := fun x hx => (possB_iff.1 (hl x hx)).2.2.2.1
set_option maxHeartbeats 8000000 in
set_option maxRecDepth 100000 in
theorem take_first (m : Int) (mixed : Bool) (A : Option Addr) (n c : Nat) (l : List Lt) (w : World) (h : LotsAt w A n c l) (hv : validB l = true) (h0 : 0 ≤ m) (h1 : m ≤ 1099511627776) (ht : m ≤ totL l) (hm : ¬ (mixed = true ∧ 0 < m)) :
    Calls Tryz.prog 20 #[.slice A n c, .int .i64 m, .bool mixed] w (RetTk w (takeS l m mixed)) := by
  have HV := Lib.hid (valid_c A n c l w h)
  have HT := Lib.hid (fun W (hE : E w W) => total_c A n c l W (h.e hE))
  have htot : totalS l = totL l := by rw [totalS, hv]; rfl
  obtain ⟨v1, v2⟩ := validB_iff.1 hv
  have hfst := put_first h0 (pos_of v2)
  have HF := Lib.hid (show takeS l m mixed = (glue ((U l).take m.toNat), glue ((U l).drop m.toNat), 0) by
    rw [takeS_yes hv h0 h1 ht, countK, if_neg hm, hfst.1, hfst.2])
  rw [hv] at HV
  rw [htot] at HT
  have hn : n ≤ 4096 := by rw [← h.len]; exact v1
  have HP := Lib.hid v2
  have HA := Lib.hid h.obl
  have HB := Lib.hid (And.intro h0 h1)
  generalize takeS l m mixed = r at *
  generalize totL l = T at *
  have da : decide (m < 0) = false := by simpa using h0
  have db : decide (1099511627776 < m) = false := by simpa using h1
  have dT : decide (T < m) = false := by simpa using ht
  have key : Calls Tryz.prog 20 #[.slice A n c, .int .i64 m, .bool mixed] w (RetTk w r) := by
    cases mixed
    · clear hv htot hfst v1 v2 h0 h1 ht hm
      go_enter Tryz.func20, Tryz.ntmps20
      go_wp2_with fail
      refine HV.out.mono ?_
      rintro e w2 ⟨rfl, hE2⟩
      go_wp2_with fail
      refine (HT.out _ hE2).mono ?_
      rintro e w3 ⟨rfl, hE3⟩
      have hE23 := hE2.trans hE3
      go_wp2_with fail
      refine (firstUnits_c m A n c l w3 (h.e hE23)).mono ?_
      rintro e w4 ⟨rfl, hS4, hE4, hz4⟩
      go_wp2_with fail
      refine (divide_first m A n c l w4 w3.heap.size (w3.heap.size + 1) HB.out.1 (by have := HB.out.2; omega) HP.out (fun h0 b hb => Nat.lt_of_lt_of_le (HA.out h0 b hb) hE23.le) (by omega) (by omega) (by omega) hS4).mono ?_
      rintro e w5 ⟨A1, n1, c1, A2, n2, c2, rfl, hO1, hO2, _, _, _, hX5⟩
      have hXw : Ex (fun b => b = w3.heap.size + 1) w3 w5 := (Ex.of_e (X := fun _ => False) hE4).trans hX5 (fun _ _ x => x.elim) (fun _ _ x => x)
      have hw4 := hE4.le
      have hw3 := hE23.le
      go_wp2_with fail
      go_ret3
      exact RetTk.mk_ HF.out (hO1.rebase (by omega)) (hO2.rebase (by omega)) (hE23.trans (hXw.e (fun i hi => by omega)))
    · have hm0 : m = 0 := by
        rcases Int.lt_or_le 0 m with hh | hh
        · exact absurd ⟨rfl, hh⟩ hm
        · omega
      have dm0 : decide (0 < m) = false := by simp; omega
      clear hv htot hfst v1 v2 h0 h1 ht hm hm0
      go_enter Tryz.func20, Tryz.ntmps20
      go_wp2_with fail
      refine HV.out.mono ?_
      rintro e w2 ⟨rfl, hE2⟩
      go_wp2_with fail
      refine (HT.out _ hE2).mono ?_
      rintro e w3 ⟨rfl, hE3⟩
      have hE23 := hE2.trans hE3
      go_wp2_with fail
      refine (firstUnits_c m A n c l w3 (h.e hE23)).mono ?_
      rintro e w4 ⟨rfl, hS4, hE4, hz4⟩
      go_wp2_with fail
      refine (divide_first m A n c l w4 w3.heap.size (w3.heap.size + 1) HB.out.1 (by have := HB.out.2; omega) HP.out (fun h0 b hb => Nat.lt_of_lt_of_le (HA.out h0 b hb) hE23.le) (by omega) (by omega) (by omega) hS4).mono ?_
      rintro e w5 ⟨A1, n1, c1, A2, n2, c2, rfl, hO1, hO2, _, _, _, hX5⟩
      have hXw : Ex (fun b => b = w3.heap.size + 1) w3 w5 := (Ex.of_e (X := fun _ => False) hE4).trans hX5 (fun _ _ x => x.elim) (fun _ _ x => x)
      have hw4 := hE4.le
      have hw3 := hE23.le
      go_wp2_with fail
      go_ret3
      exact RetTk.mk_ HF.out (hO1.rebase (by omega)) (hO2.rebase (by omega)) (hE23.trans (hXw.e (fun i hi => by omega)))
  exact key
def wgtK (l : List Lt) (k : Nat) : List Int := nums (l.take k) ++ List.replicate (l.length - k) 0
theorem wgtK_set {l : List Lt} {k : Nat} {x : Lt} (h : l[k]? = some x) : (wgtK l k).set k x.2.2 = wgtK l (k + 1) := by
  have hk := (List.getElem?_eq_some_iff.1 h).1
  have e : (nums (l.take k)).length = k := by rw [nums_len, List.length_take]; omega
  rw [wgtK, List.set_append_right _ _ (by omega), e, Nat.sub_self, show l.length - k = (l.length - (k + 1)) + 1 by omega, List.replicate_succ, sB, wgtK, List.take_add_one, h]
  simp [nums]
theorem wgtK_full {l : List Lt} {k : Nat} (h : l.length ≤ k) : wgtK l k = nums l := by rw [wgtK, List.take_of_length_le h, show l.length - k = 0 by omega]; simp
set_option maxHeartbeats 8000000 in
set_option maxRecDepth 100000 in
theorem take_mix (m : Int) (A : Option Addr) (n c : Nat) (l : List Lt) (w : World) (h : LotsAt w A n c l) (hv : validB l = true) (h0 : 0 < m) (h1 : m ≤ 1099511627776) (ht : m ≤ totL l) :
    Calls Tryz.prog 20 #[.slice A n c, .int .i64 m, .bool true] w (RetTk w (takeS l m true)) := by
  have HV := Lib.hid (valid_c A n c l w h)
  have HT := Lib.hid (fun W (hE : E w W) => total_c A n c l W (h.e hE))
  have htot : totalS l = totL l := by rw [totalS, hv]; rfl
  obtain ⟨v1, v2⟩ := validB_iff.1 hv
  have hpre := split_pre v2 v1 h0 h1 ht
  have hrg := split_range hpre ht
  have hsp : splitS m (nums l) = (splitL m (nums l), 0) := by rw [splitS, if_pos (splitOk_of hpre)]
  have HF := Lib.hid (show takeS l m true = (putL [] (sel true (pcs l (splitL m (nums l)))), putL [] (sel false (pcs l (splitL m (nums l)))), 0) by
    rw [takeS_yes hv (by omega) h1 ht, countK, if_pos ⟨rfl, h0⟩])
  rw [hv] at HV
  rw [htot] at HT
  have hn : n ≤ 4096 := by rw [← h.len]; exact v1
  have hm63 := h.n63
  have HP := Lib.hid v2
  have HA := Lib.hid h.obl
  have HR := Lib.hid hrg
  have HSp := Lib.hid hsp
  have HL := Lib.hid h.len
  have HLen := Lib.hid (show (splitL m (nums l)).length = n by rw [splitL_len, nums_len, h.len])
  generalize takeS l m true = r at *
  generalize totL l = T at *
  have da : decide (m < 0) = false := by simp; omega
  have db : decide (1099511627776 < m) = false := by simpa using h1
  have dT : decide (T < m) = false := by simpa using ht
  have d0 : decide (0 < m) = true := by simpa using h0
  have HB := Lib.hid (And.intro h0 h1)
  clear hv htot v1 v2 hpre hrg hsp h0 h1 ht
  go_enter Tryz.func20, Tryz.ntmps20
  go_wp2_with fail
  refine HV.out.mono ?_
  rintro e w2 ⟨rfl, hE2⟩
  go_wp2_with fail
  refine (HT.out _ hE2).mono ?_
  rintro e w3 ⟨rfl, hE3⟩
  have hE23 := hE2.trans hE3
  go_wp2_with fail
  refine (firstUnits_c m A n c l w3 (h.e hE23)).mono ?_
  rintro e w4 ⟨rfl, _, hE4, hz4⟩
  have hE24 := hE23.trans hE4
  clear hE2 hE3 hE4 hE23
  go_upto_region 8 with (at_make; refine wpList_mk intTk _ rfl _ _ rfl _ _ _ _ n rfl rfl rfl rfl (by omega) ?_; intro w5 hO5 hE5 hz5)
  rw [hz4] at hO5 hz5
  have hEw5 : E w w5 := hE24.trans hE5
  have hO5 : Own .i64 3 w5 (w3.heap.size + 2) (some ⟨w3.heap.size + 2, 0, none⟩) n n (wgtK l 0) := by
    have e : wgtK l 0 = List.replicate n 0 := by rw [wgtK, HL.out]; simp [nums]
    rw [e]; exact hO5
  have hw3 : w.heap.size ≤ w3.heap.size + 2 := by have := hE24.le; omega
  clear hE24 hE5 hz4
  obtain ⟨g, hg⟩ : ∃ g, w3.heap.size + 2 = g := ⟨_, rfl⟩
  rw [hg] at hO5 hz5 hw3 ⊢
  clear hg
  go_wp2_with fail
  go_loopw [45] (fun ti wr => ∃ k : Nat, k ≤ n ∧ ti = .int .i64 k ∧ Own .i64 3 wr g (some ⟨g, 0, none⟩) n n (wgtK l k) ∧ Ex (fun i => i = g) w5 wr) (fun ti _ => n - (intOf ti).toNat)
  case atStart => exact ⟨0, Nat.zero_le _, rfl, hO5, Ex.refl _ _⟩
  case round =>
    obtain ⟨k, hk, rfl, hO, hX⟩ := hrel
    have hEwr : E w wr := ((Ex.of_e (X := fun i => i = g) hEw5).trans hX (Z := fun i => i = g) (fun _ _ x => x) (fun _ _ x => x)).e (fun i hi => by omega)
    by_cases hlt : k < n
    · obtain ⟨b, o, x, rfl, hb, hx, hwx, c0, c1, c2⟩ := (h.e hEwr).get hlt
      have hkI : (k : Int) < (n : Int) := by omega
      have hSet := (hO.e ((E.refl wr).alloc (.cells #[.int .i64 x.1, .int .i64 x.2.1, .int .i64 x.2.2] 30))).set k x.2.2 hwx.2.2
      rw [wgtK_set hx] at hSet
      obtain ⟨y, hyg, hyl, _, _, hcy, hfy⟩ := (hO.e ((E.refl wr).alloc (.cells #[.int .i64 x.1, .int .i64 x.2.1, .int .i64 x.2.2] 30))).getg hlt
      have HSet := Lib.hid hSet
      have HX := Lib.hid ((hX.alloc (.cells #[.int .i64 x.1, .int .i64 x.2.1, .int .i64 x.2.2] 30)).setCell ⟨g, k, none⟩ (.inr rfl) (.int .i64 x.2.2))
      clear hx hwx hSet hX
      obtain ⟨f, a, q⟩ := x
      simp only at c0 c1 c2 hcy hfy HSet HX
      go_wp2_with fail
      go_roundw
      case rel => exact ⟨k + 1, by omega, by go_num, HSet.out, HX.out⟩
      case measure => simp [intOf]; omega
    · have hOk : Own .i64 3 wr g (some ⟨g, 0, none⟩) n n (nums l) := by
        rw [wgtK_full (by rw [HL.out]; omega)] at hO; exact hO
      have HS := Lib.hid (split_c m (some ⟨g, 0, none⟩) n n (nums l) wr hOk.reads (by omega))
      rw [HSp.out] at HS
      clear hO hOk hX hO5 hEw5
      have hle := hEwr.le
      go_wp2_with fail
      refine HS.out.mono ?_
      rintro e wa ⟨Ap, np, cp, rfl, hOp, hEa⟩
      have hE6 : E w (wa.alloc (.cells #[.slice Ap np cp] 22)) := (hEwr.trans hEa).alloc _
      have hw6 : w.heap.size ≤ wa.heap.size := (hEwr.trans hEa).le
      have hPk : PkSt (splitL m (nums l)) wa.heap.size 0 (wa.alloc (.cells #[.slice Ap np cp] 22)) :=
        ⟨Ap, np, cp, heap_alloc_new _ _, hOp.reads.e ((E.refl wa).alloc _), fun _ b hb => (hOp.ltN b hb).2⟩
      have HD := Lib.hid (ldivide_c (take_counter (splitL m (nums l)) wa.heap.size) (wa.alloc (.cells #[.slice Ap np cp] 22)) A n c l (h.e hE6) (fun h0 b hb => ⟨by have := HA.out h0 b hb; omega, fun x => x⟩) HP.out HLen.out HR.out (by rw [World.size_alloc]; omega) (by omega) hPk)
      clear hPk hOp HSp HS
      go_upto_region 17 with fail
      go_wp2_with fail
      refine HD.out.mono ?_
      rintro e w7 ⟨A1, n1, c1, A2, n2, c2, rfl, hO1, hO2, _, _, _, hX7⟩
      have hE7 := Lib.hid (hE6.trans (hX7.e (fun i hi => hi.elim)))
      have hle6 := hE6.le
      clear hX7 hE6
      go_wp2_with fail
      go_ret3
      exact RetTk.mk_ HF.out (hO1.rebase hle6) (hO2.rebase hle6) hE7.out
theorem take_c (m : Int) (mixed : Bool) (A : Option Addr) (n c : Nat) (l : List Lt) (w : World) (h : LotsAt w A n c l) :
    Calls Tryz.prog 20 #[.slice A n c, .int .i64 m, .bool mixed] w (RetTk w (takeS l m mixed)) := by
  by_cases hno : validB l = false ∨ m < 0 ∨ 1099511627776 < m ∨ totL l < m
  · exact take_no m mixed A n c l w h hno
  · have hv : validB l = true := by
      cases hv : validB l with
      | false => exact absurd (.inl hv) hno
      | true => rfl
    by_cases hm : mixed = true ∧ 0 < m
    · obtain ⟨rfl, h0⟩ := hm
      exact take_mix m A n c l w h hv h0 (by omega) (by omega)
    · exact take_first m mixed A n c l w h hv (by omega) (by omega) (by omega) hm
end Go.Proofs.YtmeplpiamkaniaaGreat
namespace Go.Proofs.YtmeplpiamkaniaaGreat
set_option linter.unusedVariables false
set_option linter.unusedSimpArgs false
open Go.RowKit Go.Shelf
end Go.Proofs.YtmeplpiamkaniaaGreat
namespace Go.Proofs.YtmeplpiamkaniaaGreat
set_option linter.unusedVariables false
set_option linter.unusedSimpArgs false
open Go.RowKit Go.Shelf
end Go.Proofs.YtmeplpiamkaniaaGreat
namespace Go.Proofs.YtmeplpiamkaniaaGreat
set_option linter.unusedVariables false
set_option linter.unusedSimpArgs false
open Go.RowKit Go.Sort
def cmpL (x y : Lt) : Int := orI (cmpI x.1 y.1) (cmpI x.2.1 y.2.1)
theorem grow3 (W : World) (o1 o2 o3 : Obj) : (((W.alloc o1).alloc o2).drew).alloc o3 = grow (W.drewN 1) #[o1, o2, o3] := by
  show (((W.drewN 1).alloc o1).alloc o2).alloc o3 = _
  rw [alloc_eq_grow, alloc_eq_grow, alloc_eq_grow, grow_grow, grow_grow]
  rfl
set_option maxHeartbeats 4000000 in
set_option maxRecDepth 100000 in
theorem setLess_c (x y : Lt) (W : World) : Calls Tryz.prog 100 #[ltV x, ltV y] W fun e w' => e = .returned (.int .i64 (cmpL x y)) ∧ ∃ q os, w' = grow (W.drewN q) os := by
  have HF := Lib.hid (show cmpL x y = orI (cmpI x.1 y.1) (cmpI x.2.1 y.2.1) from rfl)
  generalize cmpL x y = v at *
  obtain ⟨f, a, m⟩ := x
  obtain ⟨f', a', m'⟩ := y
  unfold ltV
  simp only at HF
  obtain ⟨w1, hw1⟩ : ∃ w1, (W.alloc (.cells #[.int .i64 f, .int .i64 a, .int .i64 m] 30)).alloc (.cells #[.int .i64 f', .int .i64 a', .int .i64 m'] 30) = w1 := ⟨_, rfl⟩
  have hz : w1.heap.size = W.heap.size + 2 := by rw [← hw1]; simp
  have c := cells3_new W (.int .i64 f) (.int .i64 a) (.int .i64 m) 30
  have e := cells3_new (W.alloc (.cells #[.int .i64 f, .int .i64 a, .int .i64 m] 30)) (.int .i64 f') (.int .i64 a') (.int .i64 m') 30
  rw [World.size_alloc, hw1] at e
  have hE1 : E (W.alloc (.cells #[.int .i64 f, .int .i64 a, .int .i64 m] 30)) w1 := by rw [← hw1]; exact (E.refl _).alloc _
  have c0 : w1.cell? ⟨W.heap.size, 0, none⟩ = some (.int .i64 f) := (hE1.cell (p := ⟨W.heap.size, 0, none⟩) (by simp)).trans c.1
  have c1 : w1.cell? ⟨W.heap.size, 1, none⟩ = some (.int .i64 a) := (hE1.cell (p := ⟨W.heap.size, 1, none⟩) (by simp)).trans c.2.1
  obtain ⟨e0, e1, _⟩ := e
  have HW1 := Lib.hid hw1
  clear hw1 c hE1 hz
  go_enter Tryz.func100, Tryz.ntmps100
  go_upto_region 1 with fail
  rw [HW1.out]
  go_region_held3 (fun w' => w'.cell? ⟨W.heap.size, 0, none⟩ = some (.int .i64 f) ∧ w'.cell? ⟨W.heap.size, 1, none⟩ = some (.int .i64 a) ∧ w'.cell? ⟨W.heap.size + 1, 0, none⟩ = some (.int .i64 f') ∧ w'.cell? ⟨W.heap.size + 1, 1, none⟩ = some (.int .i64 a')) (go_keep)
    (first
      | (go_at_call 54; refine (cmpI64_c _ _ _).mono ?_; rintro e w' ⟨rfl, rfl⟩)
      | (go_at_call 52; refine (cmpOr_c _ (cmpI f f') (cmpI a a') _ (by simp [World.cell?_alloc_new]) (by simp [World.cell?_alloc_new])).mono ?_; rintro e w' ⟨rfl, rfl⟩))
  all_goals go_wp2_with fail
  all_goals (go_ret; exact ⟨ret_int HF.out.symm, 1, _, by rw [← HW1.out]; exact grow3 W _ _ _⟩)
theorem cmpL_lt (x y : Lt) : ltOf cmpL x y = true ↔ x.1 < y.1 ∨ (x.1 = y.1 ∧ x.2.1 < y.2.1) := by
  unfold ltOf
  rw [decide_eq_true_eq]
  unfold cmpL orI cmpI
  by_cases h1 : x.1 < y.1
  · rw [if_pos h1]; simp; omega
  · rw [if_neg h1]
    by_cases h2 : y.1 < x.1
    · rw [if_pos h2]; simp; omega
    · rw [if_neg h2, if_pos rfl]
      by_cases h3 : x.2.1 < y.2.1
      · rw [if_pos h3]; omega
      · rw [if_neg h3]; split <;> omega
theorem cmpL_swo : SWO (ltOf cmpL) where
  irrefl x := by rw [Bool.eq_false_iff, ne_eq, cmpL_lt]; omega
  trans x y z h1 h2 := by rw [cmpL_lt] at *; omega
  ntrans x y z h1 h2 := by rw [Bool.eq_false_iff, ne_eq, cmpL_lt] at *; omega
def encL (x : Lt) : List Value := [.int .i64 x.1, .int .i64 x.2.1, .int .i64 x.2.2]
theorem flatK_L (d : Array Lt) : (flatK encL 3 d).toList = flatL d.toList := by
  apply List.ext_getElem?
  intro t
  by_cases h : t < d.size * 3
  · have hi : t / 3 < d.toList.length := by rw [Array.length_toList]; omega
    obtain ⟨c0, c1, c2⟩ := flatL_at d.toList (t / 3) _ (List.getElem?_eq_getElem hi)
    have hg := get_flatK encL 3 d t h
    have hd : d[t / 3]! = d.toList[t / 3]'hi := by
      have hi' : t / 3 < d.size := by rw [← Array.length_toList]; exact hi
      have := getElem!_pos d (t / 3) hi'
      rw [this]
      simp
    have hs : t < (flatK encL 3 d).size := by rw [size_flatK]; exact h
    have e1 : (flatK encL 3 d).toList[t]? = some (flatK encL 3 d)[t]! := by
      have h2 := getElem!_pos (flatK encL 3 d) t hs
      rw [Array.getElem?_toList, Array.getElem?_eq_getElem hs, h2]
    rw [e1, hg, hd]
    have h3 : t % 3 = 0 ∨ t % 3 = 1 ∨ t % 3 = 2 := by omega
    rcases h3 with h3 | h3 | h3
    · have e : t = t / 3 * 3 := by omega
      exact (by rw [h3]; rfl : some (encL (d.toList[t / 3]'hi))[t % 3]! = _).trans (c0.symm.trans (congrArg (fun j => (flatL d.toList)[j]?) e).symm)
    · have e : t = t / 3 * 3 + 1 := by omega
      exact (by rw [h3]; rfl : some (encL (d.toList[t / 3]'hi))[t % 3]! = _).trans (c1.symm.trans (congrArg (fun j => (flatL d.toList)[j]?) e).symm)
    · have e : t = t / 3 * 3 + 2 := by omega
      exact (by rw [h3]; rfl : some (encL (d.toList[t / 3]'hi))[t % 3]! = _).trans (c2.symm.trans (congrArg (fun j => (flatL d.toList)[j]?) e).symm)
  · rw [List.getElem?_eq_none (by rw [Array.length_toList, size_flatK]; omega), List.getElem?_eq_none (by rw [flatL_len, Array.length_toList]; omega)]
theorem take_putV (cur : Array Value) (F : Array Value) (h : F.size ≤ cur.size) : (putCells id 0 F cur).toList.take F.size = F.toList := by
  apply List.ext_getElem?
  intro j
  by_cases hj : j < F.size
  · rw [List.getElem?_take_of_lt hj, Array.getElem?_toList, Array.getElem?_toList]
    simp [putCells, hj, show j < cur.size by omega]
  · rw [List.getElem?_take_eq_none (by omega), List.getElem?_eq_none (by simp; omega)]
theorem heap_sortedV {w : World} {g n : Nat} {os : Array Obj} {cur : Array Value} {e : TypeId} {fr : Nat × Nat} (F : Array Value) (hb : w.heap[g]? = some (.cells cur e fr)) :
    (grow (putRow id (Sort.ahead w n) g 0 F) os).heap[g]? = some (.cells (putCells id 0 F cur) e fr) := by
  have hg : g < w.heap.size := (Array.getElem?_eq_some_iff.1 hb).1
  rw [heap_grow_old _ _ (by simpa using hg)]
  simp [putRow, mapBlock, Sort.ahead, Array.getElem?_modify, hb, onCells]
theorem grownBy_sortedV {w : World} {g n : Nat} {os : Array Obj} (F : Array Value) : w.grownBy (grow (putRow id (Sort.ahead w n) g 0 F) os) (some g) := by
  refine ⟨rfl, rfl, rfl, by simp, fun k hk hne => ?_⟩
  rw [heap_grow_old _ _ (by simpa using hk)]
  have : g ≠ k := fun e => hne (by rw [e])
  simp [putRow, mapBlock, Sort.ahead, Array.getElem?_modify, this]
theorem holdsV {w : World} {g : Nat} {cur : Array Value} {e : TypeId} (F : Array Value) (hb : w.heap[g]? = some (.cells cur e (0, 0))) (ht : cur.toList.take F.size = F.toList) : Holds id w g 0 F := by
  intro j hj
  refine ⟨?_, by simp [World.frozen?, hb]⟩
  have h1 : (cur.toList.take F.size)[j]? = F.toList[j]? := by rw [ht]
  rw [List.getElem?_take_of_lt hj] at h1
  simp only [World.cell?, hb, Nat.zero_add]
  simp only [Option.isSome_none, Bool.false_eq_true, if_false]
  rw [← Array.getElem?_toList, h1]
  simp [hj]
set_option maxHeartbeats 1000000 in
set_option maxRecDepth 100000 in
theorem sortL_c (A : Option Addr) (n c base : Nat) (l : List Lt) (w : World) (h : OwnL w base A n c l) (hn : n ≤ 1000000) :
    Calls Tryz.prog 79 #[.slice A n c, .func (.func 100) #[] #[]] w fun e w' => e = .returned (.tuple #[]) ∧ ∃ l', l'.Perm l ∧ l'.Pairwise (fun x y => ltOf cmpL y x = false) ∧ OwnL w' base A n c l' ∧ w.grownBy w' (ob A) := by
  rcases Nat.eq_zero_or_pos n with h0 | h0
  · subst h0
    have hl : l = [] := List.eq_nil_of_length_eq_zero h.1
    subst hl
    have hS := AnyF.slices_SortFunc_none Tryz.sortFuncL A c (.func (.func 100) #[] #[]) w
    change Calls Tryz.prog 79 _ _ _ at hS
    refine hS.mono ?_
    rintro e w' ⟨rfl, rfl⟩
    exact ⟨rfl, [], List.Perm.refl _, List.Pairwise.nil, h, World.grownBy.refl w' _⟩
  · obtain ⟨a1, ⟨a0, a2⟩, a3⟩ := h
    rcases a2 with ⟨hv, _⟩ | ⟨g, cap, cur, hv, hbase, hh, hnc, hcm, hsz, htk⟩
    · injection hv with e1 e2; omega
    injection hv with e1 e2 e3
    subst e1 e3
    have hF : (flatK encL 3 l.toArray).toList = flatL l := flatK_L l.toArray
    have hFs : (flatK encL 3 l.toArray).size = n * 3 := by rw [size_flatK]; simp [a1]
    have hH : HoldsK encL 3 w g 0 l.toArray := holdsV _ hh (by rw [hFs, hF]; exact htk)
    have hlt : g < w.heap.size := lt_blk hh
    have eg : ∀ args w, (callFunc 100 args).run Tryz.prog w = .ok (.enter 100 args) w := enters_of Tryz.func100 (by kernel_rfl) rfl
    have hcmp : CmpLays Tryz.prog 100 #[] encL 3 cmpL g 0 l.toArray.size w := fun m os dk _ x y => setLess_c x y _
    have hS := AnyQ.slices_SortFunc Tryz.sortFuncL 3 Tryz.isAgg30 Tryz.sizeOf30 encL (fun _ => rfl) (fun x v hv => by simp [encL] at hv; rcases hv with rfl | rfl | rfl <;> rfl) cmpL cmpL_swo 100 #[] g 0 c l.toArray w eg hcmp hH hlt (by simp [a1]; omega)
    change Calls Tryz.prog 79 _ _ _ at hS
    have hsz' : l.toArray.size = n := by simp [a1]
    rw [hsz'] at hS
    refine hS.mono ?_
    rintro e w' ⟨rfl, d', m, os, ⟨p1, _, p3⟩, hs, rfl⟩
    rw [hsz'] at p1
    have pp : d'.toList.Perm l := by
      have e1 : d'.extract 0 n = d' := by rw [← p1]; simp
      have e2 : l.toArray.extract 0 n = l.toArray := by rw [← hsz']; simp
      rw [e1, e2] at p3
      exact p3
    have hFd : (flatK encL 3 d').toList = flatL d'.toList := flatK_L d'
    have hFds : (flatK encL 3 d').size = n * 3 := by rw [size_flatK, p1]
    refine ⟨rfl, d'.toList, pp, ?_, ⟨by rw [Array.length_toList, p1], ⟨by rw [flatL_len, Array.length_toList, p1], .inr ⟨g, c, _, rfl, hbase, heap_sortedV _ hh, hnc, hcm, by simp [putCells, hsz], ?_⟩⟩, fun x hx => a3 x (pp.mem_iff.1 hx)⟩, grownBy_sortedV _⟩
    · rw [List.pairwise_iff_getElem]
      intro i j hi hj hij
      have := hs i j (Nat.zero_le _) hij (by rw [Array.length_toList, p1] at hj; exact hj)
      rw [getElem!_pos d' j (by simpa using hj), getElem!_pos d' i (by simpa using hi)] at this
      simpa using this
    · rw [← hFds, take_putV _ _ (by rw [hFds, hsz]; exact Nat.mul_le_mul_right 3 hnc), hFd]
end Go.Proofs.YtmeplpiamkaniaaGreat
namespace Go.Proofs.YtmeplpiamkaniaaGreat
set_option linter.unusedVariables false
set_option linter.unusedSimpArgs false
open Go.RowKit Go.Sort
theorem canon_join {T : List Lt} {p x : Lt} (h : Canon (T ++ [p])) (h1 : p.1 = x.1) (h2 : p.2.1 ≤ x.2.1) (h3 : x.2.1 ≤ p.2.1 + p.2.2) :
    Canon (T ++ [(p.1, p.2.1, max p.2.2 (x.2.1 + x.2.2 - p.2.1))]) ∧ ∀ u, u ∈ U (T ++ [(p.1, p.2.1, max p.2.2 (x.2.1 + x.2.2 - p.2.1))]) ↔ u ∈ U (T ++ [p]) ∨ u ∈ ul x := by
  have hp := h.pos p (by simp)
  refine ⟨canon_wide h rfl rfl (by simp only; omega), fun u => ?_⟩
  rw [U_app, U_app, U_one, U_one, List.mem_append, List.mem_append, mem_ul, mem_ul, mem_ul]
  simp only
  constructor
  · rintro (h | h)
    · exact .inl (.inl h)
    · by_cases hh : u.2 < p.2.1 + p.2.2
      · exact .inl (.inr ⟨h.1, h.2.1, hh⟩)
      · exact .inr ⟨by omega, by omega, by omega⟩
  · rintro ((h | h) | h)
    · exact .inl h
    · exact .inr ⟨h.1, h.2.1, by omega⟩
    · exact .inr ⟨by omega, by omega, by omega⟩
theorem mem_U_snoc (S : List Lt) (x : Lt) (u : Un) : u ∈ U (S ++ [x]) ↔ u ∈ U S ∨ u ∈ ul x := by rw [U_app, U_one, List.mem_append]
theorem U_take_succ {l : List Lt} {k : Nat} {x : Lt} (h : l[k]? = some x) : l.take (k + 1) = l.take k ++ [x] := by rw [List.take_add_one, h]; rfl
structure SetSt (l : List Lt) (k : Nat) (S : List Lt) : Prop where
  can : Canon S
  mem : ∀ u, u ∈ U S ↔ u ∈ U (l.take k)
  ini : ∀ p ∈ S, ∃ y ∈ l.take k, y.1 = p.1 ∧ y.2.1 = p.2.1
  poss : ∀ p ∈ S, possB p = true
theorem SetSt.start (l : List Lt) : SetSt l 0 [] := ⟨Canon.nil, fun u => by simp [U_nil], by simp, by simp⟩
theorem SetSt.before {l : List Lt} {k : Nat} {S : List Lt} {x p : Lt} (h : SetSt l k S) (hs : l.Pairwise fun x y => ltOf cmpL y x = false) (hx : l[k]? = some x) (hp : p ∈ S) : p.1 < x.1 ∨ (p.1 = x.1 ∧ p.2.1 ≤ x.2.1) := by
  obtain ⟨y, hy, e1, e2⟩ := h.ini p hp
  obtain ⟨i, hi, hyi⟩ := List.getElem_of_mem hy
  rw [List.length_take] at hi
  obtain ⟨hk, hxk⟩ := List.getElem?_eq_some_iff.1 hx
  have := List.pairwise_iff_getElem.1 hs i k (by omega) hk (by omega)
  rw [List.getElem_take] at hyi
  rw [hyi, hxk, Bool.eq_false_iff, ne_eq, cmpL_lt] at this
  omega
theorem SetSt.first {l : List Lt} {k : Nat} {x : Lt} (h : SetSt l k []) (hx : l[k]? = some x) (hpx : possB x = true) : SetSt l (k + 1) [x] := by
  have hp := possB_iff.1 hpx
  refine ⟨canon_one (by omega), fun u => ?_, fun p hp => ?_, fun p hp => ?_⟩
  · rw [U_take_succ hx, mem_U_snoc (l.take k) x, ← h.mem, U_nil, U_one]; simp
  · rw [List.mem_singleton] at hp; subst hp; exact ⟨p, by rw [U_take_succ hx]; simp, rfl, rfl⟩
  · rw [List.mem_singleton] at hp; subst hp; exact hpx
theorem SetSt.new {l : List Lt} {k : Nat} {T : List Lt} {x p : Lt} (h : SetSt l k (T ++ [p])) (hs : l.Pairwise fun x y => ltOf cmpL y x = false) (hx : l[k]? = some x) (hpx : possB x = true) (hn : ¬ (p.1 = x.1 ∧ x.2.1 ≤ p.2.1 + p.2.2)) : SetSt l (k + 1) (T ++ [p] ++ [x]) := by
  have hp := possB_iff.1 hpx
  have hb := h.before hs hx (p := p) (by simp)
  refine ⟨canon_new h.can (by omega) (by unfold gapL; omega), fun u => ?_, fun q hq => ?_, fun q hq => ?_⟩
  · rw [U_take_succ hx, mem_U_snoc (T ++ [p]) x, mem_U_snoc (l.take k) x, ← h.mem]
  · rw [U_take_succ hx]
    rcases List.mem_append.1 hq with hq | hq
    · obtain ⟨y, hy, e⟩ := h.ini q hq
      exact ⟨y, List.mem_append_left _ hy, e⟩
    · rw [List.mem_singleton] at hq; subst hq; exact ⟨q, by simp, rfl, rfl⟩
  · rcases List.mem_append.1 hq with hq | hq
    · exact h.poss q hq
    · rw [List.mem_singleton] at hq; subst hq; exact hpx
theorem SetSt.join {l : List Lt} {k : Nat} {T : List Lt} {x p : Lt} (h : SetSt l k (T ++ [p])) (hs : l.Pairwise fun x y => ltOf cmpL y x = false) (hx : l[k]? = some x) (hpx : possB x = true) (hn : p.1 = x.1 ∧ x.2.1 ≤ p.2.1 + p.2.2) : SetSt l (k + 1) (T ++ [(p.1, p.2.1, max p.2.2 (x.2.1 + x.2.2 - p.2.1))]) := by
  have hp := possB_iff.1 hpx
  have hpp := possB_iff.1 (h.poss p (by simp))
  have hb := h.before hs hx (p := p) (by simp)
  obtain ⟨c1, c2⟩ := canon_join h.can hn.1 (by omega) hn.2
  refine ⟨c1, fun u => ?_, fun q hq => ?_, fun q hq => ?_⟩
  · rw [c2, U_take_succ hx, mem_U_snoc (l.take k) x, ← h.mem]
  · rw [U_take_succ hx]
    rcases List.mem_append.1 hq with hq | hq
    · obtain ⟨y, hy, e⟩ := h.ini q (List.mem_append_left _ hq)
      exact ⟨y, List.mem_append_left _ hy, e⟩
    · rw [List.mem_singleton] at hq; subst hq
      obtain ⟨y, hy, e⟩ := h.ini p (by simp)
      exact ⟨y, List.mem_append_left _ hy, e⟩
  · rcases List.mem_append.1 hq with hq | hq
    · exact h.poss q (List.mem_append_left _ hq)
    · rw [List.mem_singleton] at hq; subst hq
      rw [possB_iff]; simp only; omega
theorem perm_U {l l' : List Lt} (h : l'.Perm l) (u : Un) : u ∈ U l' ↔ u ∈ U l := by
  rw [mem_U, mem_U]
  constructor
  · rintro ⟨x, hx, hu⟩; exact ⟨x, h.mem_iff.1 hx, hu⟩
  · rintro ⟨x, hx, hu⟩; exact ⟨x, h.mem_iff.2 hx, hu⟩
theorem SetSt.done {l l' : List Lt} {k : Nat} {S : List Lt} (h : SetSt l' k S) (hp : l'.Perm l) (hk : l'.length ≤ k) : S = setS l := by
  refine h.can.eq_set fun u => ?_
  rw [h.mem, List.take_of_length_le hk, perm_U hp]
set_option maxHeartbeats 16000000 in
set_option maxRecDepth 100000 in
theorem spSet_c (A : Option Addr) (n c : Nat) (l : List Lt) (w : World) (h : LotsAt w A n c l) (hl : ∀ x ∈ l, possB x = true) (hn : n ≤ 100000) :
    Calls Tryz.prog 65 #[.slice A n c] w (RetL w (setS l)) := by
  have HC := Lib.hid (cloneL_c A n c l w h (by omega))
  have HL := Lib.hid hl
  have HLen := Lib.hid h.len
  have hm63 := h.n63
  clear hl h
  generalize hr : setS l = r at *
  have HR := Lib.hid hr
  clear hr
  go_enter Tryz.func65, Tryz.ntmps65
  go_wp2_with fail
  refine HC.out.mono ?_
  rintro e w2 ⟨A2, n2, c2, rfl, hO2, hE2⟩
  have hn2 : n2 = n := by rw [← hO2.1, HLen.out]
  subst hn2
  have HS := Lib.hid (sortL_c A2 n2 c2 w.heap.size l w2 hO2 (by omega))
  clear hO2
  go_wp2_with fail
  refine HS.out.mono ?_
  rintro e w3 ⟨rfl, ls, hperm, hsrt, hO3, hG3⟩
  have hE3 := hE2.grown hG3 (fun k hk => (hO3.ltN k hk).1)
  have hA3 := hO3.reads
  have hls : ls.length = n2 := hO3.1
  have HP := Lib.hid (And.intro hperm hsrt)
  have HPo := Lib.hid (fun x hx => HL.out x (hperm.mem_iff.1 hx))
  have HLs := Lib.hid hls
  clear hperm hsrt hG3 hls hE2
  go_wp2_with fail
  go_loopw [4, 15] (fun ts ti wr => ∃ (k n1 c1 : Nat) (A1 : Option Addr) (S : List Lt), k ≤ n2 ∧ ti = .int .i64 k ∧ ts = .slice A1 n1 c1 ∧ OwnL wr w3.heap.size A1 n1 c1 S ∧ n1 ≤ k ∧ E w3 wr ∧ Hid (SetSt ls k S)) (fun _ ti _ => n2 - (intOf ti).toNat)
  case atStart => exact ⟨0, 0, 0, none, [], Nat.zero_le _, rfl, rfl, OwnL.nil _ _, Nat.le_refl _, E.refl _, SetSt.start ls⟩
  case round =>
    obtain ⟨k, n1, c1, A1, S, hk, rfl, rfl, hO, hn1, hE, hS⟩ := hrel
    by_cases hlt : k < n2
    · obtain ⟨b, o, x, rfl, hb, hx, hwx, d0, d1, d2⟩ := (hA3.e hE).get hlt
      have hkI : (k : Int) < (n2 : Int) := by omega
      have hpx := HPo.out x (List.mem_of_getElem? hx)
      have HX := Lib.hid hx
      have HPX := Lib.hid hpx
      have hxx := possB_iff.1 hpx
      obtain ⟨w4, hw4⟩ : ∃ w4, wr.alloc (.cells #[.int .i64 x.1, .int .i64 x.2.1, .int .i64 x.2.2] 30) = w4 := ⟨_, rfl⟩
      have hE4 : E wr w4 := by rw [← hw4]; exact (E.refl wr).alloc _
      have hB4 : LotsAt w4 (some ⟨wr.heap.size, 0, none⟩) 1 1 [x] := by rw [← hw4]; exact lot_new hwx
      obtain ⟨_, _, _, e1, hbb, e2, _, f0, f1, f2⟩ := hB4.get (i := 0) (by omega)
      injection e1 with e1; injection e1 with e1 e1'; subst e1 e1'
      simp at e2; subst e2
      simp only [Nat.zero_mul, Nat.zero_add] at f0 f1 f2
      have hO4 := hO.e hE4
      have hle4 : w3.heap.size ≤ w4.heap.size := Nat.le_trans hE.le hE4.le
      have HW4 := Lib.hid hw4
      have HB4 := Lib.hid hB4
      have HO4 := Lib.hid hO4
      clear hx hpx hw4 hB4 hO hO4
      rcases snoc_cases S with rfl | ⟨T, p, rfl⟩
      · have HNew := Lib.hid (hS.out.first HX.out HPX.out)
        have HN0 := Lib.hid (show n1 = 0 by have := HO4.out.1; simpa using this.symm)
        obtain ⟨f, a, m⟩ := x
        simp only at d0 d1 d2 f0 f1 f2 HW4
        go_upto_region 7 with fail
        rw [HW4.out]
        clear HW4
        go_upto_region 8 with fail
        have dn : decide (0 < n1) = false := by have := HN0.out; simp; omega
        (refine wp_region_quiet_lit (by kernel_rfl) (by kernel_rfl) ?_; (repeat (first | ((with_reducible refine wpQuiet_step (fun K hK => ?_)); go_simp; (with_reducible refine hK _ ?_); clear hK K) | ((with_reducible refine wpQuiet_off (by kernel_rfl) (fun K hK => ?_)); go_simp; (with_reducible refine hK _ ?_); clear hK K))); (with_reducible refine wpQuiet_nil ?_); intro _ hw'; obtain ⟨nq, hw''⟩ := hw'; subst hw'')
        obtain ⟨wa, hwa⟩ : ∃ wa, w4.drewN nq = wa := ⟨_, rfl⟩
        have hEa : E w4 wa := by rw [← hwa]; exact (E.refl w4).drewN nq
        rw [hwa]
        clear hwa
        obtain ⟨_, _, _, e1, hbb2, e2, _, f0, f1, f2⟩ := (HB4.out.e hEa).get (i := 0) (by omega)
        injection e1 with e1; injection e1 with e1 e1'; subst e1 e1'
        simp at e2; subst e2
        simp only [Nat.zero_mul, Nat.zero_add] at f0 f1 f2
        have hO5 := HO4.out.e (hEa.alloc (.cells #[.int .i64 f, .int .i64 a, .int .i64 m] 30))
        have hb5 : w3.heap.size ≤ (wa.alloc (.cells #[.int .i64 f, .int .i64 a, .int .i64 m] 30)).heap.size := by rw [World.size_alloc]; have := hEa.le; omega
        have hL5 := lot_new (w := wa) hwx
        have hk5 : n1 + 1 ≤ 1099511627776 := by omega
        have HE5 := Lib.hid (((hE.trans hE4).trans hEa).alloc (.cells #[.int .i64 f, .int .i64 a, .int .i64 m] 30))
        go_wp2_with (at_builtin; refine wpList_appL _ rfl _ _ rfl w3.heap.size _ _ _ _ rfl hO5 _ 1 1 [(f, a, m)] rfl hL5 hk5 hb5 ?_; intro A6 c6 w6 hO6 hG6 hB6 hor6)
        have hE6 := HE5.out.up hB6
        clear hO5 hb5 hL5 hG6 hB6 hor6
        first
          | exact ⟨⟨k + 1, n1 + 1, c6, A6, _, by omega, by go_num, rfl, hO6, by omega, hE6, HNew.out⟩, by simp [intOf]; omega⟩
          | (go_roundw
             case rel => exact ⟨k + 1, n1 + 1, c6, A6, _, by omega, by go_num, rfl, hO6, by omega, hE6, HNew.out⟩
             case measure => simp [intOf]; omega)
      · obtain ⟨kk, hnk⟩ : ∃ kk, n1 = kk + 1 := ⟨T.length, by have := HO4.out.1; simpa using this.symm⟩
        obtain ⟨hkk, g, rfl, hbg, hg, hpw, p0, p1, p2, pf⟩ := lots_last (k := kk) (by rw [← hnk]; exact HO4.out)
        have hpp := possB_iff.1 (hS.out.poss p (by simp))
        have hwr3 : IntKind.i64.wrap (p.2.1 + p.2.2) = p.2.1 + p.2.2 := by rw [IntKind.wrap_i64]; omega
        have hkkI : (kk : Int) < (n1 : Int) := by omega
        have hkk0 : (0 : Int) ≤ (kk : Int) := by omega
        have HN0 := Lib.hid (show (0 : Int) < (n1 : Int) by omega)
        have hn1' : IntKind.i64.wrap ((n1 : Int) - 1) = (kk : Int) := by rw [IntKind.wrap_i64]; omega
        have HNK := Lib.hid hnk
        have hbf := hS.out.before HP.out.2 HX.out (p := p) (by simp)
        clear hnk
        by_cases hc : p.1 = x.1 ∧ x.2.1 ≤ p.2.1 + p.2.2
        · have HNew := Lib.hid (hS.out.join HP.out.2 HX.out HPX.out hc)
          have bf : (p.1 == x.1) = true := by simpa using hc.1
          have ba : decide (x.2.1 ≤ p.2.1 + p.2.2) = true := by simpa using hc.2
          obtain ⟨v, hv⟩ : ∃ v, max p.2.2 (x.2.1 + x.2.2 - p.2.1) = v := ⟨_, rfl⟩
          have hmx := hv
          have hif : (if p.2.2 < x.2.1 + x.2.2 - p.2.1 then x.2.1 + x.2.2 - p.2.1 else p.2.2) = v := by split <;> omega
          have hwr4 : IntKind.i64.wrap (x.2.1 + x.2.2) = x.2.1 + x.2.2 := by rw [IntKind.wrap_i64]; omega
          have hwr5 : IntKind.i64.wrap (x.2.1 + x.2.2 - p.2.1) = x.2.1 + x.2.2 - p.2.1 := by rw [IntKind.wrap_i64]; omega
          have hvr : (Lit.int .i64 v).wf = true := wf_of_i64 (by omega) (by omega)
          rw [hv] at HNew
          clear hv hc hbf
          obtain ⟨f, a, m⟩ := x
          obtain ⟨fp, ap, np⟩ := p
          simp only at d0 d1 d2 f0 f1 f2 HW4 p0 p1 p2 bf ba hwr3 hmx hif hwr4 hwr5
          clear hpp hxx
          go_upto_region 7 with fail
          rw [HW4.out]
          clear HW4
          go_upto_region 8 with fail
          have dn : decide (0 < n1) = true := by have := HN0.out; simp; omega
          (refine wp_region_quiet_lit (by kernel_rfl) (by kernel_rfl) ?_; (repeat (first | ((with_reducible refine wpQuiet_step (fun K hK => ?_)); go_simp; (with_reducible refine hK _ ?_); clear hK K) | ((with_reducible refine wpQuiet_off (by kernel_rfl) (fun K hK => ?_)); go_simp; (with_reducible refine hK _ ?_); clear hK K))); (with_reducible refine wpQuiet_nil ?_); intro _ hw'; obtain ⟨nq, hw''⟩ := hw'; subst hw'')
          obtain ⟨wa, hwa⟩ : ∃ wa, w4.drewN nq = wa := ⟨_, rfl⟩
          have hEa : E w4 wa := by rw [← hwa]; exact (E.refl w4).drewN nq
          rw [hwa]
          clear hwa
          clear p0 p1 p2 pf f0 f1 f2
          obtain ⟨_, g', e', _, _, _, p0, p1, p2, pf⟩ := lots_last (k := kk) (by rw [← HNK.out]; exact HO4.out.e hEa)
          injection e' with e'; injection e' with e'; subst e'
          obtain ⟨_, _, _, e1, hbb2, e2, _, f0, f1, f2⟩ := (HB4.out.e hEa).get (i := 0) (by omega)
          injection e1 with e1; injection e1 with e1 e1'; subst e1 e1'
          simp at e2; subst e2
          simp only [Nat.zero_mul, Nat.zero_add] at f0 f1 f2 p0 p1 p2
          have hSet := (HO4.out.e hEa).setN (i := kk) (x := (fp, ap, np)) (y := (fp, ap, v)) (by rw [← hkk]; exact last_get _ _) rfl rfl hvr
          have hlast : (T ++ [(fp, ap, np)]).set kk (fp, ap, v) = T ++ [(fp, ap, v)] := by rw [← hkk]; exact set_last _ _ _
          rw [hlast] at hSet
          have HSet := Lib.hid hSet
          have HEa := Lib.hid ((hE.trans hE4).trans hEa)
          clear hSet hlast
          go_wp2_with fail
          go_region
          all_goals go_wp2_with fail
          have hE7 : E w3 (wa.setCell ⟨g, kk * 3 + 2, none⟩ (.int .i64 v)).drew := (HEa.out.setCell (p := ⟨g, kk * 3 + 2, none⟩) hbg _).drew
          have hO7 := HSet.out.1.e ((E.refl (wa.setCell ⟨g, kk * 3 + 2, none⟩ (.int .i64 v))).drew)
          first
            | exact ⟨⟨k + 1, n1, c1, _, _, by omega, by go_num, rfl, hO7, by omega, hE7, HNew.out⟩, by simp [intOf]; omega⟩
            | (go_roundw
               case rel => exact ⟨k + 1, n1, c1, _, _, by omega, by go_num, rfl, hO7, by omega, hE7, HNew.out⟩
               case measure => simp [intOf]; omega)
        · have HNew := Lib.hid (hS.out.new HP.out.2 HX.out HPX.out hc)
          by_cases hf : p.1 = x.1
          · have bf : (p.1 == x.1) = true := by simpa using hf
            have ba : decide (x.2.1 ≤ p.2.1 + p.2.2) = false := by simp; omega
            clear hf
            obtain ⟨f, a, m⟩ := x
            obtain ⟨fp, ap, np⟩ := p
            simp only at d0 d1 d2 f0 f1 f2 HW4 p0 p1 p2 bf ba hwr3
            clear hpp hxx hbf hc
            go_upto_region 7 with fail
            rw [HW4.out]
            clear HW4
            go_upto_region 8 with fail
            have dn : decide (0 < n1) = true := by have := HN0.out; simp; omega
            (refine wp_region_quiet_lit (by kernel_rfl) (by kernel_rfl) ?_; (repeat (first | ((with_reducible refine wpQuiet_step (fun K hK => ?_)); go_simp; (with_reducible refine hK _ ?_); clear hK K) | ((with_reducible refine wpQuiet_off (by kernel_rfl) (fun K hK => ?_)); go_simp; (with_reducible refine hK _ ?_); clear hK K))); (with_reducible refine wpQuiet_nil ?_); intro _ hw'; obtain ⟨nq, hw''⟩ := hw'; subst hw'')
            obtain ⟨wa, hwa⟩ : ∃ wa, w4.drewN nq = wa := ⟨_, rfl⟩
            have hEa : E w4 wa := by rw [← hwa]; exact (E.refl w4).drewN nq
            rw [hwa]
            clear hwa f0 f1 f2
            obtain ⟨_, _, _, e1, hbb2, e2, _, f0, f1, f2⟩ := (HB4.out.e hEa).get (i := 0) (by omega)
            injection e1 with e1; injection e1 with e1 e1'; subst e1 e1'
            simp at e2; subst e2
            simp only [Nat.zero_mul, Nat.zero_add] at f0 f1 f2
            have hO5 := HO4.out.e (hEa.alloc (.cells #[.int .i64 f, .int .i64 a, .int .i64 m] 30))
            have hb5 : w3.heap.size ≤ (wa.alloc (.cells #[.int .i64 f, .int .i64 a, .int .i64 m] 30)).heap.size := by rw [World.size_alloc]; have := hEa.le; omega
            have hL5 := lot_new (w := wa) hwx
            have hk5 : n1 + 1 ≤ 1099511627776 := by omega
            have HE5 := Lib.hid (((hE.trans hE4).trans hEa).alloc (.cells #[.int .i64 f, .int .i64 a, .int .i64 m] 30))
            go_wp2_with (at_builtin; refine wpList_appL _ rfl _ _ rfl w3.heap.size _ _ _ _ rfl hO5 _ 1 1 [(f, a, m)] rfl hL5 hk5 hb5 ?_; intro A6 c6 w6 hO6 hG6 hB6 hor6)
            have hE6 := HE5.out.up hB6
            clear hO5 hb5 hL5 hG6 hB6 hor6
            first
              | exact ⟨⟨k + 1, n1 + 1, c6, A6, _, by omega, by go_num, rfl, hO6, by omega, hE6, HNew.out⟩, by simp [intOf]; omega⟩
              | (go_roundw
                 case rel => exact ⟨k + 1, n1 + 1, c6, A6, _, by omega, by go_num, rfl, hO6, by omega, hE6, HNew.out⟩
                 case measure => simp [intOf]; omega)
          · have bf : (p.1 == x.1) = false := by simpa using hf
            have ba : True := trivial
            clear hf
            obtain ⟨f, a, m⟩ := x
            obtain ⟨fp, ap, np⟩ := p
            simp only at d0 d1 d2 f0 f1 f2 HW4 p0 p1 p2 bf ba hwr3
            clear hpp hxx hbf hc
            go_upto_region 7 with fail
            rw [HW4.out]
            clear HW4
            go_upto_region 8 with fail
            have dn : decide (0 < n1) = true := by have := HN0.out; simp; omega
            (refine wp_region_quiet_lit (by kernel_rfl) (by kernel_rfl) ?_; (repeat (first | ((with_reducible refine wpQuiet_step (fun K hK => ?_)); go_simp; (with_reducible refine hK _ ?_); clear hK K) | ((with_reducible refine wpQuiet_off (by kernel_rfl) (fun K hK => ?_)); go_simp; (with_reducible refine hK _ ?_); clear hK K))); (with_reducible refine wpQuiet_nil ?_); intro _ hw'; obtain ⟨nq, hw''⟩ := hw'; subst hw'')
            obtain ⟨wa, hwa⟩ : ∃ wa, w4.drewN nq = wa := ⟨_, rfl⟩
            have hEa : E w4 wa := by rw [← hwa]; exact (E.refl w4).drewN nq
            rw [hwa]
            clear hwa f0 f1 f2
            obtain ⟨_, _, _, e1, hbb2, e2, _, f0, f1, f2⟩ := (HB4.out.e hEa).get (i := 0) (by omega)
            injection e1 with e1; injection e1 with e1 e1'; subst e1 e1'
            simp at e2; subst e2
            simp only [Nat.zero_mul, Nat.zero_add] at f0 f1 f2
            have hO5 := HO4.out.e (hEa.alloc (.cells #[.int .i64 f, .int .i64 a, .int .i64 m] 30))
            have hb5 : w3.heap.size ≤ (wa.alloc (.cells #[.int .i64 f, .int .i64 a, .int .i64 m] 30)).heap.size := by rw [World.size_alloc]; have := hEa.le; omega
            have hL5 := lot_new (w := wa) hwx
            have hk5 : n1 + 1 ≤ 1099511627776 := by omega
            have HE5 := Lib.hid (((hE.trans hE4).trans hEa).alloc (.cells #[.int .i64 f, .int .i64 a, .int .i64 m] 30))
            go_wp2_with (at_builtin; refine wpList_appL _ rfl _ _ rfl w3.heap.size _ _ _ _ rfl hO5 _ 1 1 [(f, a, m)] rfl hL5 hk5 hb5 ?_; intro A6 c6 w6 hO6 hG6 hB6 hor6)
            have hE6 := HE5.out.up hB6
            clear hO5 hb5 hL5 hG6 hB6 hor6
            first
              | exact ⟨⟨k + 1, n1 + 1, c6, A6, _, by omega, by go_num, rfl, hO6, by omega, hE6, HNew.out⟩, by simp [intOf]; omega⟩
              | (go_roundw
                 case rel => exact ⟨k + 1, n1 + 1, c6, A6, _, by omega, by go_num, rfl, hO6, by omega, hE6, HNew.out⟩
                 case measure => simp [intOf]; omega)
    · have hfin := Lib.hid (hS.out.done HP.out.1 (by rw [HLs.out]; omega))
      rw [hfin.out] at hO
      have hle3 := hE3.le
      go_wp2_with fail
      go_ret
      exact RetL.mk_ HR.out.symm (hO.rebase hle3) (hE3.trans hE)
end Go.Proofs.YtmeplpiamkaniaaGreat
namespace Go.Proofs.YtmeplpiamkaniaaGreat
set_option linter.unusedVariables false
set_option linter.unusedSimpArgs false
open Go.RowKit Go.Shelf
def behB (f a : Int) (y : Lt) : Bool := decide (f < y.1) || (decide (y.1 = f) && decide (a < y.2.1 + y.2.2))
theorem behB_iff {f a : Int} {y : Lt} : behB f a y = true ↔ f < y.1 ∨ (y.1 = f ∧ a < y.2.1 + y.2.2) := by simp [behB]
theorem behB_mono {s : List Lt} (h : Canon s) {f a : Int} {i j : Nat} {x y : Lt} (hij : i ≤ j) (hx : s[i]? = some x) (hy : s[j]? = some y) (hb : behB f a x = true) : behB f a y = true := by
  rcases Nat.lt_or_eq_of_le hij with hlt | rfl
  · obtain ⟨hi, rfl⟩ := List.getElem?_eq_some_iff.1 hx
    obtain ⟨hj, rfl⟩ := List.getElem?_eq_some_iff.1 hy
    have hg := List.pairwise_iff_getElem.1 h.gap i j hi hj hlt
    have hp := h.pos _ (List.getElem_mem hj)
    rw [behB_iff] at hb ⊢
    unfold gapL at hg
    omega
  · rw [hx] at hy; injection hy with hy; subst hy; exact hb
theorem count_mono {p : Nat → Bool} {n : Nat} (hm : ∀ a b, a ≤ b → b < n → p a = true → p b = true) : ∀ j, j < n → (j < (List.range n).countP (fun i => !p i) ↔ p j = false) := by
  induction n with
  | zero => intro j hj; omega
  | succ n ih =>
    intro j hj
    have ih' := ih fun a b hab hb => hm a b hab (by omega)
    have hle : (List.range n).countP (fun i => !p i) ≤ n := by have := List.countP_le_length (p := fun i => !p i) (l := List.range n); rw [List.length_range] at this; exact this
    rw [List.range_succ, List.countP_append]
    cases hn : p n
    · have hall : ∀ a, a ≤ n → p a = false := fun a ha => by
        cases hpa : p a
        · rfl
        · have := hm a n ha (by omega) hpa; rw [hn] at this; cases this
      have hc : (List.range n).countP (fun i => !p i) = n := by
        rw [List.countP_eq_length.2 (fun a ha => by rw [hall a (by have := List.mem_range.1 ha; omega)]; rfl), List.length_range]
      rw [hc]
      simp [hn, hall j (by omega)]
      omega
    · rw [show List.countP (fun i => !p i) [n] = 0 by simp [hn], Nat.add_zero]
      rcases Nat.lt_or_eq_of_le (show j ≤ n by omega) with h | rfl
      · exact ih' j h
      · rw [hn]; simp; omega
def AtPlace (s : List Lt) (f a : Int) (i : Nat) : Prop := i ≤ s.length ∧ ∀ j y, s[j]? = some y → (j < i ↔ behB f a y = false)
theorem AtPlace.ahead {s : List Lt} {f a : Int} {i j : Nat} {y : Lt} (h : AtPlace s f a i) (hj : j < i) (hy : s[j]? = some y) : y.1 < f ∨ (y.1 = f ∧ y.2.1 + y.2.2 ≤ a) := by
  have := (h.2 j y hy).1 hj
  rw [Bool.eq_false_iff, ne_eq, behB_iff] at this
  omega
theorem AtPlace.from_ {s : List Lt} {f a : Int} {i j : Nat} {y : Lt} (h : AtPlace s f a i) (hj : i ≤ j) (hy : s[j]? = some y) : f < y.1 ∨ (y.1 = f ∧ a < y.2.1 + y.2.2) := by
  have := h.2 j y hy
  cases hb : behB f a y
  · rw [hb] at this; have := this.2 rfl; omega
  · exact behB_iff.1 hb
theorem AtPlace.gap {s : List Lt} (hs : Canon s) {f a m : Int} {i : Nat} (h : AtPlace s f a i) (hno : ∀ y, s[i]? = some y → y.1 ≠ f ∨ a + m ≤ y.2.1) : ∀ u ∈ ul (f, a, m), ¬ u ∈ U s := by
  intro u hu hus
  obtain ⟨y, hy, huy⟩ := mem_U.1 hus
  obtain ⟨j, hj, rfl⟩ := List.getElem_of_mem hy
  have hju : s[j]? = some s[j] := List.getElem?_eq_getElem hj
  have h1 := mem_ul.1 hu
  have h2 := mem_ul.1 huy
  simp only at h1
  rcases Nat.lt_or_ge j i with hji | hji
  · have := h.ahead hji hju; omega
  · have h3 := h.from_ hji hju
    have hi : i < s.length := by omega
    have hiu : s[i]? = some s[i] := List.getElem?_eq_getElem hi
    have h4 := hno _ hiu
    have h5 := h.from_ (Nat.le_refl i) hiu
    rcases Nat.lt_or_eq_of_le hji with hlt | heq
    · have hg := List.pairwise_iff_getElem.1 hs.gap i j hi hj hlt
      have hp := hs.pos _ (List.getElem_mem hi)
      unfold gapL at hg
      omega
    · subst heq; omega
theorem AtPlace.inside {s : List Lt} {f a m : Int} {i : Nat} {y : Lt} (hy : s[i]? = some y) (h1 : y.1 = f) (h2 : y.2.1 ≤ a) (h3 : a + m ≤ y.2.1 + y.2.2) : ∀ u ∈ ul (f, a, m), u ∈ U s := by
  intro u hu
  have h4 := mem_ul.1 hu
  simp only at h4
  exact mem_U.2 ⟨y, List.mem_of_getElem? hy, mem_ul.2 ⟨by omega, by omega, by omega⟩⟩
theorem AtPlace.upto {s : List Lt} {f a b : Int} {i : Nat} (h : AtPlace s f a i) (hab : a ≤ b) (hi : ∀ y, s[i]? = some y → y.1 = f ∧ b < y.2.1 + y.2.2) (hs : Canon s) : AtPlace s f b i := by
  refine ⟨h.1, fun j y hy => ?_⟩
  constructor
  · intro hj
    have := h.ahead hj hy
    rw [Bool.eq_false_iff, ne_eq, behB_iff]; omega
  · intro hb
    rcases Nat.lt_or_ge j i with hji | hji
    · exact hji
    · have hi' : i < s.length := Nat.lt_of_le_of_lt hji (List.getElem?_eq_some_iff.1 hy).1
      have hiu : s[i]? = some s[i] := List.getElem?_eq_getElem hi'
      obtain ⟨h5, h6⟩ := hi _ hiu
      have := behB_mono hs hji hiu hy ((behB_iff (f := f) (a := b)).2 (.inr ⟨h5, h6⟩))
      rw [hb] at this; cases this
theorem AtPlace.next {s : List Lt} {f a b : Int} {i : Nat} {y : Lt} (h : AtPlace s f a i) (hy : s[i]? = some y) (h1 : y.1 = f) (h2 : b = y.2.1 + y.2.2) (hs : Canon s) : AtPlace s f b (i + 1) := by
  have hi := (List.getElem?_eq_some_iff.1 hy).1
  refine ⟨by omega, fun j z hz => ?_⟩
  rw [Bool.eq_false_iff, ne_eq, behB_iff]
  rcases Nat.lt_trichotomy j i with hj | rfl | hj
  · have := h.ahead hj hz
    have h3 := h.from_ (Nat.le_refl i) hy
    omega
  · rw [hy] at hz; injection hz with hz; subst hz
    omega
  · obtain ⟨_, rfl⟩ := List.getElem?_eq_some_iff.1 hy
    obtain ⟨hj', rfl⟩ := List.getElem?_eq_some_iff.1 hz
    have hg := List.pairwise_iff_getElem.1 hs.gap i j hi hj' hj
    have hp := hs.pos _ (List.getElem_mem hj')
    unfold gapL at hg
    omega
structure Parts (s : List Lt) (us : List Un) (ps : List (Lt × Bool)) : Prop where
  ins : U (sel true ps) = inU s us
  out : U (sel false ps) = outU s us
  pos : ∀ p ∈ ps, 1 ≤ p.1.2.2
theorem Parts.start (s : List Lt) : Parts s [] [] := ⟨rfl, rfl, by simp⟩
theorem Parts.in_ {s : List Lt} {us : List Un} {ps : List (Lt × Bool)} {x : Lt} (h : Parts s us ps) (hx : 1 ≤ x.2.2) (hin : ∀ u ∈ ul x, u ∈ U s) : Parts s (us ++ ul x) (ps ++ [(x, true)]) := by
  obtain ⟨e1, e2⟩ := inU_all hin
  refine ⟨?_, ?_, ?_⟩
  · rw [sel_app, U_app, inU_app, h.ins, e1, show sel true [(x, true)] = [x] by simp [sel], U_one]
  · rw [sel_app, U_app, outU_app, h.out, e2, show sel false [(x, true)] = [] by simp [sel], U_nil]
  · intro p hp
    rcases List.mem_append.1 hp with hp | hp
    · exact h.pos p hp
    · rw [List.mem_singleton] at hp; subst hp; exact hx
theorem Parts.out_ {s : List Lt} {us : List Un} {ps : List (Lt × Bool)} {x : Lt} (h : Parts s us ps) (hx : 1 ≤ x.2.2) (hout : ∀ u ∈ ul x, ¬ u ∈ U s) : Parts s (us ++ ul x) (ps ++ [(x, false)]) := by
  obtain ⟨e1, e2⟩ := outU_all hout
  refine ⟨?_, ?_, ?_⟩
  · rw [sel_app, U_app, inU_app, h.ins, e1, show sel true [(x, false)] = [] by simp [sel], U_nil]
  · rw [sel_app, U_app, outU_app, h.out, e2, show sel false [(x, false)] = [x] by simp [sel], U_one]
  · intro p hp
    rcases List.mem_append.1 hp with hp | hp
    · exact h.pos p hp
    · rw [List.mem_singleton] at hp; subst hp; exact hx
set_option maxHeartbeats 4000000 in
set_option maxRecDepth 100000 in
theorem beh_c (Bs Bx : Nat) (A : Option Addr) (n c : Nat) (s : List Lt) (x y : Lt) (i : Nat) (W : World) (hs : LotsAt W A n c s) (hB : W.cell? ⟨Bs, 0, none⟩ = some (.slice A n c)) (hx0 : W.cell? ⟨Bx, 0, none⟩ = some (.int .i64 x.1)) (hx1 : W.cell? ⟨Bx, 1, none⟩ = some (.int .i64 x.2.1)) (hy : s[i]? = some y) (hp : possB y = true) :
    Calls Tryz.prog 130 #[.int .i64 i, ptr Bs, ptr Bx] W fun e w' => e = .returned (.bool (behB x.1 x.2.1 y)) ∧ ∃ q, w' = W.drewN q := by
  have hi : i < n := by rw [← hs.len]; exact (List.getElem?_eq_some_iff.1 hy).1
  have hm := hs.n63
  obtain ⟨b, o, z, rfl, hb, hz, _, c0, c1, c2⟩ := hs.get hi
  rw [hy] at hz
  injection hz with hz
  subst hz
  have hpp := possB_iff.1 hp
  have hiI : (i : Int) < (n : Int) := by omega
  have hwr : IntKind.i64.wrap (y.2.1 + y.2.2) = y.2.1 + y.2.2 := by rw [IntKind.wrap_i64]; omega
  have HF := Lib.hid (show behB x.1 x.2.1 y = (decide (x.1 < y.1) || (decide (y.1 = x.1) && decide (x.2.1 < y.2.1 + y.2.2))) from rfl)
  generalize behB x.1 x.2.1 y = r at *
  clear hy hp hpp hs
  obtain ⟨f, a, m⟩ := x
  obtain ⟨g, d, k⟩ := y
  simp only at c0 c1 c2 hx0 hx1 hwr HF
  unfold ptr
  by_cases h1 : f < g
  · have d1 : decide (f < g) = true := by simpa using h1
    go_enter Tryz.func130, Tryz.ntmps130
    go_upto_region 1 with fail
    (refine wp_region_quiet_lit (by kernel_rfl) (by kernel_rfl) ?_; (repeat (first | ((with_reducible refine wpQuiet_step (fun K hK => ?_)); go_simp; (with_reducible refine hK _ ?_); clear hK K) | ((with_reducible refine wpQuiet_off (by kernel_rfl) (fun K hK => ?_)); go_simp; (with_reducible refine hK _ ?_); clear hK K))); (with_reducible refine wpQuiet_nil ?_); intro _ hw'; obtain ⟨nq, hw''⟩ := hw'; subst hw'')
    go_wp2_with fail
    go_ret
    exact ⟨ret_bool (by rw [HF.out]; simp [h1]), nq, rfl⟩
  · have d1 : decide (f < g) = false := by simpa using h1
    by_cases h2 : g = f
    · have d2 : (g == f) = true := by simpa using h2
      by_cases h3 : a < d + k
      · have d3 : decide (a < d + k) = true := by simpa using h3
        have HR := Lib.hid (show true = r by rw [HF.out]; simp [h2, h3])
        clear h2
        go_enter Tryz.func130, Tryz.ntmps130
        go_upto_region 1 with fail
        (refine wp_region_quiet_lit (by kernel_rfl) (by kernel_rfl) ?_; (repeat (first | ((with_reducible refine wpQuiet_step (fun K hK => ?_)); go_simp; (with_reducible refine hK _ ?_); clear hK K) | ((with_reducible refine wpQuiet_off (by kernel_rfl) (fun K hK => ?_)); go_simp; (with_reducible refine hK _ ?_); clear hK K))); (with_reducible refine wpQuiet_nil ?_); intro _ hw'; obtain ⟨nq, hw''⟩ := hw'; subst hw'')
        go_wp2_with fail
        go_ret
        exact ⟨ret_bool HR.out, nq, rfl⟩
      · have d3 : decide (a < d + k) = false := by simpa using h3
        have HR := Lib.hid (show false = r by rw [HF.out]; simp [h2]; omega)
        clear h2
        go_enter Tryz.func130, Tryz.ntmps130
        go_upto_region 1 with fail
        (refine wp_region_quiet_lit (by kernel_rfl) (by kernel_rfl) ?_; (repeat (first | ((with_reducible refine wpQuiet_step (fun K hK => ?_)); go_simp; (with_reducible refine hK _ ?_); clear hK K) | ((with_reducible refine wpQuiet_off (by kernel_rfl) (fun K hK => ?_)); go_simp; (with_reducible refine hK _ ?_); clear hK K))); (with_reducible refine wpQuiet_nil ?_); intro _ hw'; obtain ⟨nq, hw''⟩ := hw'; subst hw'')
        go_wp2_with fail
        go_ret
        exact ⟨ret_bool HR.out, nq, rfl⟩
    · have d2 : (g == f) = false := by simpa using h2
      have HR := Lib.hid (show false = r by rw [HF.out]; simp [h1, h2])
      go_enter Tryz.func130, Tryz.ntmps130
      go_upto_region 1 with fail
      (refine wp_region_quiet_lit (by kernel_rfl) (by kernel_rfl) ?_; (repeat (first | ((with_reducible refine wpQuiet_step (fun K hK => ?_)); go_simp; (with_reducible refine hK _ ?_); clear hK K) | ((with_reducible refine wpQuiet_off (by kernel_rfl) (fun K hK => ?_)); go_simp; (with_reducible refine hK _ ?_); clear hK K))); (with_reducible refine wpQuiet_nil ?_); intro _ hw'; obtain ⟨nq, hw''⟩ := hw'; subst hw'')
      go_wp2_with fail
      go_ret
      exact ⟨ret_bool HR.out, nq, rfl⟩
end Go.Proofs.YtmeplpiamkaniaaGreat
namespace Go.Proofs.YtmeplpiamkaniaaGreat
set_option linter.unusedVariables false
set_option linter.unusedSimpArgs false
open Go.RowKit Go.Shelf Go.Sort
theorem grow_none (w : World) : w = grow w #[] := by cases w; simp [grow]
theorem E_grow (w : World) (q : Nat) (os : Array Obj) : E w (grow (w.drewN q) os) := ⟨rfl, rfl, rfl, by simp, fun k hk => heap_grow_old (w.drewN q) os (by simpa using hk)⟩
theorem search_c (Bs Bx : Nat) (A : Option Addr) (n c : Nat) (s : List Lt) (x : Lt) (w : World) (hs : LotsAt w A n c s) (hn : n ≤ 1000000) (hB : w.heap[Bs]? = some (.cells #[.slice A n c] 41 (0, 0))) (hx : w.heap[Bx]? = some (.cells #[.int .i64 x.1, .int .i64 x.2.1, .int .i64 x.2.2] 30 (0, 0))) (hc : Canon s) (hp : ∀ y ∈ s, possB y = true) :
    Calls Tryz.prog 96 #[.int .i64 n, .func (.func 130) #[] #[ptr Bs, ptr Bx]] w fun e w' => ∃ i : Nat, e = .returned (.int .i64 i) ∧ AtPlace s x.1 x.2.1 i ∧ E w w' := by
  have hlen := hs.len
  have hm : ∀ a b, a ≤ b → b < n → behB x.1 x.2.1 (s.getD a (0, 0, 0)) = true → behB x.1 x.2.1 (s.getD b (0, 0, 0)) = true := fun a b hab hb h => by
    have ha : s[a]? = some (s.getD a (0, 0, 0)) := by rw [List.getD_eq_getElem?_getD, List.getElem?_eq_getElem (by omega)]; rfl
    have hb' : s[b]? = some (s.getD b (0, 0, 0)) := by rw [List.getD_eq_getElem?_getD, List.getElem?_eq_getElem (by omega)]; rfl
    exact behB_mono hc hab ha hb' h
  have hS := Any.sort_Search Tryz.searchS 130 #[ptr Bs, ptr Bx] n (fun i => behB x.1 x.2.1 (s.getD i (0, 0, 0))) w Tryz.call130 (by omega)
    (fun m os i hi => by
      have hE := E_grow w m os
      have hy : s[i]? = some (s.getD i (0, 0, 0)) := by rw [List.getD_eq_getElem?_getD, List.getElem?_eq_getElem (by omega)]; rfl
      have hx' : (grow (w.drewN m) os).heap[Bx]? = _ := (hE.block (lt_blk hx)).trans hx
      refine (show Calls Tryz.prog 130 (#[.int .i64 i] ++ #[ptr Bs, ptr Bx]) _ _ from beh_c Bs Bx A n c s x (s.getD i (0, 0, 0)) i _ (hs.e hE) (cell_one ((hE.block (lt_blk hB)).trans hB)).1 (cell_of_row _ _ 0 _ _ _ hx') (cell_of_row _ _ 1 _ _ _ hx') hy (hp _ (List.mem_of_getElem? hy))).mono ?_
      rintro e w' ⟨rfl, q, rfl⟩
      exact ⟨rfl, q, #[], grow_none _⟩) hm
  change Calls Tryz.prog 96 _ _ _ at hS
  refine hS.mono ?_
  rintro e w' ⟨rfl, q, os, rfl⟩
  refine ⟨_, rfl, ⟨?_, fun j y hy => ?_⟩, E_grow w q os⟩
  · have := List.countP_le_length (p := fun i => !behB x.1 x.2.1 (s.getD i (0, 0, 0))) (l := List.range n)
    rw [List.length_range] at this
    omega
  · have hj : j < n := by rw [← hlen]; exact (List.getElem?_eq_some_iff.1 hy).1
    have := count_mono hm j hj
    rw [List.getD_eq_getElem?_getD, hy] at this
    exact this
structure EatsX (L : Nat) (N : Nat) (on : Bool → Bool) (J Jx : List (Lt × Bool) → (Nat → Prop) → World → Prop) : Prop where
  lt : ∀ ps X W, J ps X W → ∀ i, X i → N ≤ i ∧ i < W.heap.size
  keep : ∀ ps X W W', J ps X W → (∀ i, X i → W'.heap[i]? = W.heap[i]?) → J ps X W'
  go : ∀ ps X W (x : Lt) (f : Bool) (m : Nat), on f = true → J ps X W → ps.length ≤ 300000 → possB x = true → WfL x →
    YieldAt Fence.wide m Tryz.prog L #[ltV x, .bool f] W fun e W' => e = .returned (.bool true) ∧ ∃ X', J (ps ++ [(x, f)]) X' W' ∧ Ex X W W' ∧ ∀ i, X' i → X i ∨ W.heap.size ≤ i
  stop : ∀ ps X W (x : Lt) (f : Bool) (m : Nat), on f = false → J ps X W → ps.length ≤ 300000 → possB x = true → WfL x →
    YieldAt Fence.wide m Tryz.prog L #[ltV x, .bool f] W fun e W' => e = .returned (.bool false) ∧ ∃ X', Jx (ps ++ [(x, f)]) X' W' ∧ Ex X W W' ∧ ∀ i, X' i → X i ∨ W.heap.size ≤ i
end Go.Proofs.YtmeplpiamkaniaaGreat
namespace Go.Proofs.YtmeplpiamkaniaaGreat
set_option linter.unusedVariables false
set_option linter.unusedSimpArgs false
open Go.RowKit Go.Shelf
attribute [local go_sem] Oper.semAt_some
theorem cells3_of {w : World} {b : Nat} {x y z : Value} {T : TypeId} (h : w.heap[b]? = some (.cells #[x, y, z] T (0, 0))) : w.cell? ⟨b, 0, none⟩ = some x ∧ w.cell? ⟨b, 1, none⟩ = some y ∧ w.cell? ⟨b, 2, none⟩ = some z ∧ w.frozen? ⟨b, 1, none⟩ = false ∧ w.frozen? ⟨b, 2, none⟩ = false :=
  ⟨cell_of_row _ _ 0 _ _ _ h, cell_of_row _ _ 1 _ _ _ h, cell_of_row _ _ 2 _ _ _ h, frozen_of_row _ _ 1 _ _ h, frozen_of_row _ _ 2 _ _ h⟩
theorem set12 {w : World} {b : Nat} {x y z y' z' : Value} {T : TypeId} (h : w.heap[b]? = some (.cells #[x, y, z] T (0, 0))) : ((w.setCell ⟨b, 1, none⟩ y').setCell ⟨b, 2, none⟩ z').heap[b]? = some (.cells #[x, y', z'] T (0, 0)) :=
  heap_setCell_same _ _ 2 _ _ z' (heap_setCell_same _ _ 1 _ _ y' h)
structure PW (W1 : World) (X0 : Nat → Prop) (W : World) (X : Nat → Prop) : Prop where
  ex : Ex X0 W1 W
  xx : ∀ i, X i → X0 i ∨ W1.heap.size ≤ i
theorem PW.step {W1 W W' : World} {X0 X X' : Nat → Prop} (h : PW W1 X0 W X) (hx : Ex X W W') (hX : ∀ i, X' i → X i ∨ W.heap.size ≤ i) : PW W1 X0 W' X' :=
  ⟨h.ex.trans hx (fun _ _ x => x) (fun i hi y => by
    rcases h.xx i y with h1 | h1
    · exact h1
    · omega), fun i hi => by
    rcases hX i hi with h1 | h1
    · exact h.xx i h1
    · right; have := h.ex.size; omega⟩
theorem PW.own {W1 W W' : World} {X0 X : Nat → Prop} (h : PW W1 X0 W X) {b : Nat} (hb : W1.heap.size ≤ b) (hx : Ex (fun i => i = b) W W') : PW W1 X0 W' X :=
  ⟨h.ex.trans hx (fun _ _ x => x) (fun i hi y => by omega), h.xx⟩
set_option maxHeartbeats 16000000 in
set_option maxRecDepth 100000 in
theorem spieces1_c {L N : Nat} {on : Bool → Bool} {J Jx : List (Lt × Bool) → (Nat → Prop) → World → Prop} (hJ : EatsX L N on J Jx) (hon : on true = true)
    (W1 : World) (Bl Bs : Nat) (A : Option Addr) (n c : Nat) (l : List Lt) (As : Option Addr) (ns cs : Nat) (s : List Lt) (hA : LotsAt W1 A n c l) (hS : LotsAt W1 As ns cs s) (hAN : 0 < n → ∀ b, ob A = some b → b < N) (hSN : 0 < ns → ∀ b, ob As = some b → b < N)
    (hp : ∀ x ∈ l, possB x = true) (hps : ∀ x ∈ s, possB x = true) (hcan : Canon s) (hl : W1.heap[Bl]? = some (.cells #[.slice A n c] 41 (0, 0))) (hs : W1.heap[Bs]? = some (.cells #[.slice As ns cs] 41 (0, 0))) (hcnt : n * (2 * ns + 1) ≤ 300000) (hns : ns ≤ 100000)
    (X0 : Nat → Prop) (h0 : J [] X0 W1) (hXl : ¬ X0 Bl) (hXs : ¬ X0 Bs) :
    Calls Tryz.prog 129 #[.func (.yield L) #[] #[], ptr Bl, ptr Bs] W1 fun e W' => (∃ v, e = .returned v) ∧ ∃ ps us X', Parts s us ps ∧ ((J ps X' W' ∧ us = U l ∧ ∀ p ∈ ps, on p.2 = true) ∨ (Jx ps X' W' ∧ (∀ u ∈ us, u ∈ U l) ∧ ∃ p ∈ ps, on p.2 = false)) ∧ Ex X0 W1 W' ∧ ∀ i, X' i → X0 i ∨ W1.heap.size ≤ i := by
  have hX0 := hJ.lt _ _ _ h0
  have HAt := Lib.hid (fun (W : World) (X : Nat → Prop) (h : PW W1 X0 W X) => (show LotsAt W A n c l ∧ LotsAt W As ns cs s ∧ W.heap[Bl]? = some (.cells #[.slice A n c] 41 (0, 0)) ∧ W.heap[Bs]? = some (.cells #[.slice As ns cs] 41 (0, 0)) from
    ⟨hA.ex h.ex (fun h0 b hb x => by have := hAN h0 b hb; have := (hX0 b x).1; omega), hS.ex h.ex (fun h0 b hb x => by have := hSN h0 b hb; have := (hX0 b x).1; omega), (h.ex.block _ (lt_blk hl) hXl).trans hl, (h.ex.block _ (lt_blk hs) hXs).trans hs⟩))
  have HJ := Lib.hid hJ
  have HP := Lib.hid (And.intro hp hps)
  have HCan := Lib.hid hcan
  have H0 := Lib.hid h0
  have HLen := Lib.hid (And.intro hA.len hS.len)
  have hls := lt_blk hs
  have cl := (cell_one hl).1
  have hm63 := hA.n63
  have hs63 := hS.n63
  have HCnt := Lib.hid hcnt
  clear hJ hp hps hcan h0 hX0 hAN hSN hl hs hXl hXs hA hS hcnt
  unfold ptr
  go_enter Tryz.func129, Tryz.ntmps129
  go_wp2_with fail
  go_loopw [11] (fun ti wr => ∃ (k : Nat) (ps : List (Lt × Bool)) (X : Nat → Prop), k ≤ n ∧ ti = .int .i64 k ∧ Hid (J ps X wr) ∧ Hid (PW W1 X0 wr X) ∧ Hid (Parts s (U (l.take k)) ps) ∧ Hid (∀ p ∈ ps, on p.2 = true) ∧ Hid (ps.length ≤ k * (2 * ns + 1))) (fun ti _ => n - (intOf ti).toNat)
  case atStart => exact ⟨0, [], X0, Nat.zero_le _, rfl, H0.out, ⟨Ex.refl _ _, fun i hi => .inl hi⟩, Parts.start s, show ∀ p ∈ _, _ by simp, show _ ≤ _ by simp⟩
  case round =>
    obtain ⟨k, ps, X, hk, rfl, hJk, hW, hPt, hall, hlen⟩ := hrel
    obtain ⟨hAr, hSr, hlr, hsr⟩ := HAt.out _ _ hW.out
    by_cases hlt : k < n
    · obtain ⟨b, o, x, rfl, hb, hx, hwx, c0, c1, c2⟩ := hAr.get hlt
      have hkI : (k : Int) < (n : Int) := by omega
      have hpx := HP.out.1 x (List.mem_of_getElem? hx)
      have HX := Lib.hid hx
      have hxx := possB_iff.1 hpx
      have hXlt := HJ.out.lt _ _ _ hJk.out
      obtain ⟨w2, hw2⟩ : ∃ w2, wr.alloc (.cells #[.int .i64 x.1, .int .i64 x.2.1, .int .i64 x.2.2] 30) = w2 := ⟨_, rfl⟩
      have hE2 : E wr w2 := by rw [← hw2]; exact (E.refl wr).alloc _
      have hbx : w2.heap[wr.heap.size]? = some (.cells #[.int .i64 x.1, .int .i64 x.2.1, .int .i64 x.2.2] 30 (0, 0)) := by rw [← hw2]; exact heap_alloc_new _ _
      obtain ⟨Bx, hBx⟩ : ∃ Bx, wr.heap.size = Bx := ⟨_, rfl⟩
      have hB1 : W1.heap.size ≤ Bx := by rw [← hBx]; exact hW.out.ex.size
      have hnX : ¬ X Bx := fun h => by have := (hXlt _ h).2; omega
      have hW2 : PW W1 X0 w2 X := hW.out.step (Ex.of_e hE2) (fun i hi => .inl hi)
      have hJ2 := HJ.out.keep _ _ _ w2 hJk.out (fun i hi => hE2.block (hXlt i hi).2)
      rw [hBx] at hbx
      obtain ⟨_, hS2, _, hs2⟩ := HAt.out _ _ hW2
      have HSr := Lib.hid (search_c Bs Bx As ns cs s x w2 hS2 (by omega) hs2 hbx HCan.out HP.out.2)
      have HW2 := Lib.hid hw2
      have HPW2 := Lib.hid hW2
      have HJ2 := Lib.hid hJ2
      have HBX := Lib.hid hbx
      have HNX := Lib.hid hnX
      have HPX := Lib.hid (And.intro hpx hxx)
      have cs2 := (cell_one hs2).1
      clear hx hpx hXlt hw2 hW2 hJ2 hJk hW hbx hnX hS2 hs2 hAr hSr hlr hsr hxx
      obtain ⟨f, a0, m0⟩ := x
      simp only at c0 c1 c2 HBX HW2
      unfold ptr at HSr
      go_upto_region 3 with fail
      rw [HW2.out]
      clear HW2 hBx
      go_wp2_with fail
      refine HSr.out.mono ?_
      rintro e w3 ⟨i0, rfl, hAt, hE3⟩
      have HJ3 := Lib.hid (HJ.out.keep _ _ _ w3 HJ2.out (fun i hi => hE3.block (HJ.out.lt _ _ _ HJ2.out i hi).2))
      have HPW3 := Lib.hid (HPW2.out.step (Ex.of_e hE3) (fun i hi => .inl hi))
      have hbx3 : w3.heap[Bx]? = some (.cells #[.int .i64 f, .int .i64 a0, .int .i64 m0] 30 (0, 0)) := (hE3.block (lt_blk HBX.out)).trans HBX.out
      have HAt0 := Lib.hid hAt
      have hi0 : i0 ≤ ns := by rw [← HLen.out.2]; exact hAt.1
      clear HJ2 HPW2 HBX hE3 hAt HSr c0 c1 c2 hb cs2
      go_wp2_with fail
      go_loopw [6] (fun ti wx => ∃ (i : Nat) (ps : List (Lt × Bool)) (X : Nat → Prop) (a m : Int), i ≤ ns ∧ ti = .int .i64 i ∧ wx.heap[Bx]? = some (.cells #[.int .i64 f, .int .i64 a, .int .i64 m] 30 (0, 0)) ∧ Hid (J ps X wx) ∧ Hid (PW W1 X0 wx X) ∧ Hid (Parts s (U (l.take k) ++ ul (f, a0, a - a0)) ps) ∧ Hid (∀ p ∈ ps, on p.2 = true) ∧ Hid (ps.length + 2 * (ns - i) + 1 ≤ (k + 1) * (2 * ns + 1)) ∧ Hid (¬ X Bx) ∧
        Hid (a0 ≤ a ∧ 0 ≤ m ∧ a + m = a0 + m0) ∧ Hid (0 < m → AtPlace s f a i)) (fun ti _ => ns - (intOf ti).toNat)
      case atStart =>
        refine ⟨i0, ps, X, a0, m0, hi0, rfl, hbx3, HJ3.out, HPW3.out, ?_, hall, ?_, HNX.out, ?_, fun _ => HAt0.out⟩
        · show Parts s _ ps
          rw [show ul (f, a0, a0 - a0) = [] from ul_none (by simp), List.append_nil]
          exact hPt.out
        · show _ ≤ _
          have := hlen.out
          rw [Nat.add_mul]; omega
        · exact ⟨Int.le_refl _, by have := HPX.out.2; (try simp only at this); omega, rfl⟩
      case round =>
        clear hbx3 HJ3 HPW3 HAt0 hi0 hPt hall hlen HNX
        obtain ⟨i, ps, X, a, m, hi, rfl, hbx, hJi, hPW, hPt, hall, hlen, hnX, ham, hat⟩ := hrel
        obtain ⟨f0, f1, f2, g1, g2⟩ := cells3_of hbx
        obtain ⟨_, hSx, _, hsx⟩ := HAt.out _ _ hPW.out
        have csx := (cell_one hsx).1
        have hxx := HPX.out.2
        try simp only at hxx
        have hAM := ham.out
        have hwrA : IntKind.i64.wrap (a + m) = a + m := by rw [IntKind.wrap_i64]; omega
        by_cases hm : 0 < m
        · have dm : decide (0 < m) = true := by simpa using hm
          by_cases hin : i < ns
          · have din : decide (i < ns) = true := by simpa using hin
            have hinI : (i : Int) < (ns : Int) := by omega
            obtain ⟨bs, os, y, rfl, hbs, hy, hwy, e0, e1, e2⟩ := hSx.get hin
            have hyy := possB_iff.1 (HP.out.2 y (List.mem_of_getElem? hy))
            have HY := Lib.hid hy
            have hwrY : IntKind.i64.wrap (y.2.1 + y.2.2) = y.2.1 + y.2.2 := by rw [IntKind.wrap_i64]; omega
            by_cases hf : y.1 = f
            · have df : (y.1 == f) = true := by simpa using hf
              by_cases hya : y.2.1 < a + m
              · have dya : decide (y.2.1 < a + m) = true := by simpa using hya
                obtain ⟨g, d, q⟩ := y
                simp only at e0 e1 e2 hyy hwrY df dya hf hya
                have HGF := Lib.hid hf
                have HDYA := Lib.hid dya
                clear hy hf
                clear hAM
                go_upto_region 4 with fail
                (refine wp_region_quiet_lit (by kernel_rfl) (by kernel_rfl) ?_; (repeat (first | ((with_reducible refine wpQuiet_step (fun K hK => ?_)); go_simp; (with_reducible refine hK _ ?_); clear hK K) | ((with_reducible refine wpQuiet_off (by kernel_rfl) (fun K hK => ?_)); go_simp; (with_reducible refine hK _ ?_); clear hK K))); (with_reducible refine wpQuiet_nil ?_); intro _ hw'; obtain ⟨nq, hw''⟩ := hw'; subst hw'')
                try rw [HDYA.out]
                have hAM := ham.out
                obtain ⟨w4, hw4⟩ : ∃ w4, wr.drewN nq = w4 := ⟨_, rfl⟩
                rw [hw4]
                have HCB := Lib.hid (show (k + 1) * (2 * ns + 1) ≤ 300000 from Nat.le_trans (Nat.mul_le_mul_right _ (by omega)) HCnt.out)
                have hEw4 : E wr w4 := by rw [← hw4]; exact (E.refl wr).drewN nq
                clear hw4
                have hJ4 := HJ.out.keep _ _ _ w4 hJi.out (fun j hj => hEw4.block (HJ.out.lt _ _ _ hJi.out j hj).2)
                have HPW4a := Lib.hid (hPW.out.step (Ex.of_e hEw4) (fun j hj => .inl hj))
                have hbx4 : w4.heap[Bx]? = _ := (hEw4.block (lt_blk hbx)).trans hbx
                have HBX4 := Lib.hid hbx4
                have HJ4 := Lib.hid hJ4
                clear f0 f1 f2 g1 g2 csx e0 e1 e2 hSx hsx hbx hJ4
                obtain ⟨f0, f1, f2, g1, g2⟩ := cells3_of hbx4
                obtain ⟨_, hS4, _, hs4⟩ := HAt.out _ _ HPW4a.out
                have csx := (cell_one hs4).1
                obtain ⟨bs', os', y', eA, _, hy', _, e0, e1, e2⟩ := hS4.get hin
                injection eA with eA; injection eA with eA1 eA2; subst eA1 eA2
                rw [HY.out] at hy'
                injection hy' with hy'
                subst hy'
                simp only at e0 e1 e2
                have hend : a < d + q := by
                  have h1 := (hat.out hm).from_ (Nat.le_refl i) HY.out
                  have h2 := HGF.out
                  simp only at h1
                  omega
                have hwr6 : IntKind.i64.wrap (d - a) = d - a := by rw [IntKind.wrap_i64]; omega
                obtain ⟨ov, hov⟩ : ∃ ov, max 0 (d - a) = ov := ⟨_, rfl⟩
                have HOV := Lib.hid hov
                have HOV2 := Lib.hid (show (if 0 < d - a then d - a else 0) = ov by split <;> omega)
                have hovr : 0 ≤ ov ∧ (ov = 0 ∧ d ≤ a ∨ ov = d - a ∧ 0 < ov) := by omega
                clear hov hbx4 hS4 hs4 hEw4
                go_upto_region 6 with fail
                (refine wp_region_quiet_lit (by kernel_rfl) (by kernel_rfl) ?_; (repeat (first | ((with_reducible refine wpQuiet_step (fun K hK => ?_)); go_simp; (with_reducible refine hK _ ?_); clear hK K) | ((with_reducible refine wpQuiet_off (by kernel_rfl) (fun K hK => ?_)); go_simp; (with_reducible refine hK _ ?_); clear hK K))); (with_reducible refine wpQuiet_nil ?_); intro _ hw'; obtain ⟨nq, hw''⟩ := hw'; subst hw'')
                first | rw [HOV.out] | rw [HOV2.out]
                obtain ⟨w5, hw5⟩ : ∃ w5, w4.drewN nq = w5 := ⟨_, rfl⟩
                have hE5 : E w4 w5 := by rw [← hw5]; exact (E.refl w4).drewN nq
                rw [hw5]
                have hJ5 := HJ.out.keep _ _ _ w5 HJ4.out (fun j hj => hE5.block (HJ.out.lt _ _ _ HJ4.out j hj).2)
                have HPW4 := Lib.hid (HPW4a.out.step (Ex.of_e hE5) (fun j hj => .inl hj))
                have hbx5 : w5.heap[Bx]? = _ := (hE5.block (lt_blk HBX4.out)).trans HBX4.out
                clear f0 f1 f2 g1 g2 csx e0 e1 e2 hw5 hE5 HPW4a HBX4 HJ4
                obtain ⟨f0, f1, f2, g1, g2⟩ := cells3_of hbx5
                by_cases hz : 0 < ov
                · have dz : decide (0 < ov) = true := by simpa using hz
                  have hPSo := hPt.out.out_ (x := (f, a, ov)) (by simp only; omega) ((hat.out hm).gap HCan.out (fun z hz' => by rw [HY.out] at hz'; injection hz' with hz'; subst hz'; right; simp only; omega))
                  have hcut := ul_cut (f := f) (a := a0) (n := a + ov - a0) (k := a - a0) (by omega) (by omega)
                  rw [show a0 + (a - a0) = a by omega, show a + ov - a0 - (a - a0) = ov by omega] at hcut
                  have HPS := Lib.hid (show Parts s (U (l.take k) ++ ul (f, a0, a + ov - a0)) (ps ++ [((f, a, ov), false)]) by rw [hcut, ← List.append_assoc]; exact hPSo)
                  have HUS := Lib.hid (show ∀ u ∈ U (l.take k) ++ ul (f, a0, a + ov - a0), u ∈ U l from fun u hu => by
                    rcases List.mem_append.1 hu with hu | hu
                    · obtain ⟨z, hz, hu⟩ := mem_U.1 hu; exact mem_U.2 ⟨z, List.mem_of_mem_take hz, hu⟩
                    · refine mem_U.2 ⟨_, List.mem_of_getElem? HX.out, ?_⟩
                      have := mem_ul.1 hu
                      exact mem_ul.2 ⟨this.1, this.2.1, by simp only at this ⊢; omega⟩)
                  have HBX5 := Lib.hid hbx5
                  clear hPSo hcut hbx5
                  go_upto_region 7 with fail
                  cases hof : on false
                  · obtain ⟨fn, tmps, assign, body, hyl, hR⟩ := HJ.out.stop _ _ _ (f, a, ov) false 2 hof hJ5 (by have h1 := hlen.out; have h2 := HCB.out; omega) (possB_iff.2 (by simp only; omega)) ⟨hwx.1, wf_of_i64 (by simp only; omega) (by simp only; omega), wf_of_i64 (by simp only; omega) (by simp only; omega)⟩
                    unfold ltV at hyl
                    simp only at hyl
                    refine (wpIn_wide (n := 3)).1 ?_
                    gi_wp2
                    refine hR.mono ?_
                    rintro e w6 ⟨rfl, X6, hJ6, hXn, hXXn⟩
                    clear hR hyl
                    gi_wp2
                    go_wp2_with fail
                    refine bodyPost_ret (results_none rfl _ _ _) rfl ?_
                    exact ⟨⟨_, rfl⟩, _, _, _, HPS.out, .inr ⟨hJ6, HUS.out, _, List.mem_append_right _ (List.mem_singleton.2 rfl), hof⟩, (HPW4.out.step hXn hXXn).ex, (HPW4.out.step hXn hXXn).xx⟩
                  · obtain ⟨fn, tmps, assign, body, hyl, hR⟩ := HJ.out.go _ _ _ (f, a, ov) false 2 hof hJ5 (by have h1 := hlen.out; have h2 := HCB.out; omega) (possB_iff.2 (by simp only; omega)) ⟨hwx.1, wf_of_i64 (by simp only; omega) (by simp only; omega), wf_of_i64 (by simp only; omega) (by simp only; omega)⟩
                    unfold ltV at hyl
                    simp only at hyl
                    refine (wpIn_wide (n := 3)).1 ?_
                    gi_wp2
                    refine hR.mono ?_
                    rintro e w6 ⟨rfl, X6, hJ6, hXn, hXXn⟩
                    clear hR hyl
                    gi_wp2
                    have hbx6 : w6.heap[Bx]? = _ := (hXn.block _ (lt_blk HBX5.out) hnX.out).trans HBX5.out
                    have hnX6 : ¬ X6 Bx := fun hh => by
                      rcases hXXn _ hh with h1 | h1
                      · exact hnX.out h1
                      · have := lt_blk HBX5.out; omega
                    have HPW6 := Lib.hid (HPW4.out.step hXn hXXn)
                    have HP6 := Lib.hid HPS.out
                    have hall6 := Lib.hid (show ∀ p ∈ ps ++ [((f, a, ov), false)], on p.2 = true from fun p hp => by
                      rcases List.mem_append.1 hp with hp | hp
                      · exact hall.out p hp
                      · rw [List.mem_singleton] at hp; subst hp; exact hof)
                    have hl6 := Lib.hid (show (ps ++ [((f, a, ov), false)]).length ≤ ps.length + 1 by simp)
                    have at6 := Lib.hid (show AtPlace s f (a + ov) i from (hat.out hm).upto (by omega) (fun z hz' => by rw [HY.out] at hz'; injection hz' with hz'; subst hz'; exact ⟨HGF.out, by simp only; omega⟩) HCan.out)
                    clear hXn hXXn hJ5 HBX5 HPS HUS HPW4
                    clear f0 f1 f2 g1 g2
                    obtain ⟨f0, f1, f2, g1, g2⟩ := cells3_of hbx6
                    have hwr8 : IntKind.i64.wrap (a + ov) = a + ov := by rw [IntKind.wrap_i64]; omega
                    have hwr9 : IntKind.i64.wrap (m - ov) = m - ov := by rw [IntKind.wrap_i64]; omega
                    have hbx7 := set12 (y' := .int .i64 (a + ov)) (z' := .int .i64 (m - ov)) hbx6
                    have hX7 : Ex (fun j => j = Bx) w6 ((w6.setCell ⟨Bx, 1, none⟩ (.int .i64 (a + ov))).setCell ⟨Bx, 2, none⟩ (.int .i64 (m - ov))) := ((Ex.refl (fun j => j = Bx) w6).setCell ⟨Bx, 1, none⟩ (.inr rfl) _).setCell ⟨Bx, 2, none⟩ (.inr rfl) _
                    have hJ7 := Lib.hid (HJ.out.keep _ _ _ _ hJ6 (fun j hj => hX7.block j (HJ.out.lt _ _ _ hJ6 j hj).2 (fun e => hnX6 (e ▸ hj))))
                    have HPW7 := Lib.hid (HPW6.out.own hB1 hX7)
                    have HBX7 := Lib.hid hbx7
                    have hnX6' := Lib.hid hnX6
                    clear hbx7 hX7 hJ6 hbx6 hnX6
                    go_upto_region 9 with fail
                    obtain ⟨w7, hw7⟩ : ∃ w7, (w6.setCell ⟨Bx, 1, none⟩ (.int .i64 (a + ov))).setCell ⟨Bx, 2, none⟩ (.int .i64 (m - ov)) = w7 := ⟨_, rfl⟩
                    rw [hw7] at hJ7 HPW7 HBX7 ⊢
                    clear hw7 f0 f1 f2 g1 g2
                    obtain ⟨_, hS7, _, hs7⟩ := HAt.out _ _ HPW7.out
                    have csx := (cell_one hs7).1
                    obtain ⟨f0, f1, f2, g1, g2⟩ := cells3_of HBX7.out
                    obtain ⟨bs', os', y', eA, _, hy', _, e0, e1, e2⟩ := hS7.get hin
                    injection eA with eA; injection eA with eA1 eA2; subst eA1 eA2
                    rw [HY.out] at hy'
                    injection hy' with hy'
                    subst hy'
                    simp only at e0 e1 e2
                    have hwr10 : IntKind.i64.wrap (d + q - (a + ov)) = d + q - (a + ov) := by rw [IntKind.wrap_i64]; omega
                    obtain ⟨iv, hiv⟩ : ∃ iv, min (m - ov) (d + q - (a + ov)) = iv := ⟨_, rfl⟩
                    have HIV := Lib.hid hiv
                    have HIV2 := Lib.hid (show (if d + q - (a + ov) < m - ov then d + q - (a + ov) else m - ov) = iv by split <;> omega)
                    have hivr : 1 ≤ iv ∧ iv ≤ m - ov ∧ iv ≤ d + q - (a + ov) := by omega
                    have hivc : iv = m - ov ∨ iv = d + q - (a + ov) := by omega
                    clear hiv hS7 hs7
                    (refine wp_region_quiet_lit (by kernel_rfl) (by kernel_rfl) ?_; (repeat (first | ((with_reducible refine wpQuiet_step (fun K hK => ?_)); go_simp; (with_reducible refine hK _ ?_); clear hK K) | ((with_reducible refine wpQuiet_off (by kernel_rfl) (fun K hK => ?_)); go_simp; (with_reducible refine hK _ ?_); clear hK K))); (with_reducible refine wpQuiet_nil ?_); intro _ hw'; obtain ⟨nq, hw''⟩ := hw'; subst hw'')
                    first | rw [HIV.out] | rw [HIV2.out]
                    obtain ⟨w8, hw8⟩ : ∃ w8, w7.drewN nq = w8 := ⟨_, rfl⟩
                    have hE8 : E w7 w8 := by rw [← hw8]; exact (E.refl w7).drewN nq
                    rw [hw8]
                    have hJ8 := HJ.out.keep _ _ _ w8 hJ7.out (fun j hj => hE8.block (HJ.out.lt _ _ _ hJ7.out j hj).2)
                    have HPW8 := Lib.hid (HPW7.out.step (Ex.of_e hE8) (fun j hj => .inl hj))
                    have hbx8 : w8.heap[Bx]? = _ := (hE8.block (lt_blk HBX7.out)).trans HBX7.out
                    clear f0 f1 f2 g1 g2 csx e0 e1 e2 hw8 hE8 hJ7 HPW7 HBX7
                    obtain ⟨f0, f1, f2, g1, g2⟩ := cells3_of hbx8
                    have HBX8 := Lib.hid hbx8
                    clear hbx8
                    go_upto_region 10 with fail
                    obtain ⟨fn, tmps, assign, body, hyl, hR⟩ := HJ.out.go _ _ _ (f, a + ov, iv) true 2 hon hJ8 (by have h1 := hlen.out; have h2 := HCB.out; have h3 := hl6.out; omega) (possB_iff.2 (by simp only; omega)) ⟨hwx.1, wf_of_i64 (by simp only; omega) (by simp only; omega), wf_of_i64 (by simp only; omega) (by simp only; omega)⟩
                    unfold ltV at hyl
                    simp only at hyl
                    refine (wpIn_wide (n := 3)).1 ?_
                    gi_wp2
                    refine hR.mono ?_
                    rintro e w9 ⟨rfl, X9, hJ9, hXn, hXXn⟩
                    clear hR hyl
                    gi_wp2
                    have hbx9 : w9.heap[Bx]? = _ := (hXn.block _ (lt_blk HBX8.out) hnX6'.out).trans HBX8.out
                    have hnX9 : ¬ X9 Bx := fun hh => by
                      rcases hXXn _ hh with h1 | h1
                      · exact hnX6'.out h1
                      · have := lt_blk HBX8.out; omega
                    have HPW9 := Lib.hid (HPW8.out.step hXn hXXn)
                    clear f0 f1 f2 g1 g2 hJ8 hXn hXXn
                    obtain ⟨f0, f1, f2, g1, g2⟩ := cells3_of hbx9
                    have hwr11 : IntKind.i64.wrap (a + ov + iv) = a + ov + iv := by rw [IntKind.wrap_i64]; omega
                    have hwr12 : IntKind.i64.wrap (m - ov - iv) = m - ov - iv := by rw [IntKind.wrap_i64]; omega
                    have hbxA := Lib.hid (set12 (y' := .int .i64 (a + ov + iv)) (z' := .int .i64 (m - ov - iv)) hbx9)
                    have hXA : Ex (fun j => j = Bx) w9 ((w9.setCell ⟨Bx, 1, none⟩ (.int .i64 (a + ov + iv))).setCell ⟨Bx, 2, none⟩ (.int .i64 (m - ov - iv))) := ((Ex.refl (fun j => j = Bx) w9).setCell ⟨Bx, 1, none⟩ (.inr rfl) _).setCell ⟨Bx, 2, none⟩ (.inr rfl) _
                    have hJA := Lib.hid (HJ.out.keep _ _ _ _ hJ9 (fun j hj => hXA.block j (HJ.out.lt _ _ _ hJ9 j hj).2 (fun e => hnX9 (e ▸ hj))))
                    have HPWA := Lib.hid (HPW9.out.own hB1 hXA)
                    have HPTA := Lib.hid (show Parts s (U (l.take k) ++ ul (f, a0, a + ov + iv - a0)) ((ps ++ [((f, a, ov), false)]) ++ [((f, a + ov, iv), true)]) by
                      have hq := HP6.out.in_ (x := (f, a + ov, iv)) (by simp only; omega) (AtPlace.inside HY.out HGF.out (by simp only; omega) (by simp only; omega))
                      have he := ul_cut (f := f) (a := a0) (n := a + ov + iv - a0) (k := a + ov - a0) (by omega) (by omega)
                      rw [show a0 + (a + ov - a0) = a + ov by omega, show a + ov + iv - a0 - (a + ov - a0) = iv by omega] at he
                      rw [he, ← List.append_assoc]; exact hq)
                    have hallA := Lib.hid (show ∀ p ∈ (ps ++ [((f, a, ov), false)]) ++ [((f, a + ov, iv), true)], on p.2 = true from fun p hp => by
                      rcases List.mem_append.1 hp with hp | hp
                      · exact hall6.out p hp
                      · rw [List.mem_singleton] at hp; subst hp; exact hon)
                    have hlenA := Lib.hid (show ((ps ++ [((f, a, ov), false)]) ++ [((f, a + ov, iv), true)]).length + 2 * (ns - (i + 1)) + 1 ≤ (k + 1) * (2 * ns + 1) by
                      rw [List.length_append, List.length_singleton]; have h1 := hlen.out; have h3 := hl6.out; omega)
                    have hnXA := Lib.hid hnX9
                    have hamA := Lib.hid (show a0 ≤ a + ov + iv ∧ 0 ≤ m - ov - iv ∧ a + ov + iv + (m - ov - iv) = a0 + m0 by omega)
                    have hatA := Lib.hid (show 0 < m - ov - iv → AtPlace s f (a + ov + iv) (i + 1) from fun hh => at6.out.next HY.out HGF.out (by simp only; omega) HCan.out)
                    clear hbx9 hnX9 hXA hJ9 HPW9 HP6 hall6 hl6 at6 hall hlen ham hat hnX hJi hPW hPt
                    go_wp2_with fail
                    first
                      | exact ⟨⟨i + 1, _, _, _, _, by omega, by go_num, hbxA.out, hJA.out, HPWA.out, HPTA.out, hallA.out, hlenA.out, hnXA.out, hamA.out, hatA.out⟩, by simp [intOf]; omega⟩
                      | (go_roundw
                         case rel => exact ⟨i + 1, _, _, _, _, by omega, by go_num, hbxA.out, hJA.out, HPWA.out, HPTA.out, hallA.out, hlenA.out, hnXA.out, hamA.out, hatA.out⟩
                         case measure => simp [intOf]; omega)
                · have dz : decide (0 < ov) = false := by simpa using hz
                  have hov0 : ov = 0 := by omega
                  have HPW6 := HPW4
                  have HP6 := Lib.hid (show Parts s (U (l.take k) ++ ul (f, a0, a + ov - a0)) ps by rw [hov0, Int.add_zero]; exact hPt.out)
                  have hall6 := hall
                  have hl6 := Lib.hid (show ps.length ≤ ps.length + 1 by omega)
                  have at6 := Lib.hid (show AtPlace s f (a + ov) i by rw [hov0, Int.add_zero]; exact hat.out hm)
                  have hnX6 := hnX.out
                  have hJ6 := hJ5
                  have hbx6 := hbx5
                  clear hov0 hJ5 hbx5 HPW4
                  obtain ⟨w6, hw6⟩ : ∃ w6, w6 = w5 := ⟨_, rfl⟩
                  subst hw6
                  clear f0 f1 f2 g1 g2
                  obtain ⟨f0, f1, f2, g1, g2⟩ := cells3_of hbx6
                  have hwr8 : IntKind.i64.wrap (a + ov) = a + ov := by rw [IntKind.wrap_i64]; omega
                  have hwr9 : IntKind.i64.wrap (m - ov) = m - ov := by rw [IntKind.wrap_i64]; omega
                  have hbx7 := set12 (y' := .int .i64 (a + ov)) (z' := .int .i64 (m - ov)) hbx6
                  have hX7 : Ex (fun j => j = Bx) w6 ((w6.setCell ⟨Bx, 1, none⟩ (.int .i64 (a + ov))).setCell ⟨Bx, 2, none⟩ (.int .i64 (m - ov))) := ((Ex.refl (fun j => j = Bx) w6).setCell ⟨Bx, 1, none⟩ (.inr rfl) _).setCell ⟨Bx, 2, none⟩ (.inr rfl) _
                  have hJ7 := Lib.hid (HJ.out.keep _ _ _ _ hJ6 (fun j hj => hX7.block j (HJ.out.lt _ _ _ hJ6 j hj).2 (fun e => hnX6 (e ▸ hj))))
                  have HPW7 := Lib.hid (HPW6.out.own hB1 hX7)
                  have HBX7 := Lib.hid hbx7
                  have hnX6' := Lib.hid hnX6
                  clear hbx7 hX7 hJ6 hbx6 hnX6
                  go_upto_region 9 with fail
                  obtain ⟨w7, hw7⟩ : ∃ w7, (w6.setCell ⟨Bx, 1, none⟩ (.int .i64 (a + ov))).setCell ⟨Bx, 2, none⟩ (.int .i64 (m - ov)) = w7 := ⟨_, rfl⟩
                  rw [hw7] at hJ7 HPW7 HBX7 ⊢
                  clear hw7 f0 f1 f2 g1 g2
                  obtain ⟨_, hS7, _, hs7⟩ := HAt.out _ _ HPW7.out
                  have csx := (cell_one hs7).1
                  obtain ⟨f0, f1, f2, g1, g2⟩ := cells3_of HBX7.out
                  obtain ⟨bs', os', y', eA, _, hy', _, e0, e1, e2⟩ := hS7.get hin
                  injection eA with eA; injection eA with eA1 eA2; subst eA1 eA2
                  rw [HY.out] at hy'
                  injection hy' with hy'
                  subst hy'
                  simp only at e0 e1 e2
                  have hwr10 : IntKind.i64.wrap (d + q - (a + ov)) = d + q - (a + ov) := by rw [IntKind.wrap_i64]; omega
                  obtain ⟨iv, hiv⟩ : ∃ iv, min (m - ov) (d + q - (a + ov)) = iv := ⟨_, rfl⟩
                  have HIV := Lib.hid hiv
                  have HIV2 := Lib.hid (show (if d + q - (a + ov) < m - ov then d + q - (a + ov) else m - ov) = iv by split <;> omega)
                  have hivr : 1 ≤ iv ∧ iv ≤ m - ov ∧ iv ≤ d + q - (a + ov) := by omega
                  have hivc : iv = m - ov ∨ iv = d + q - (a + ov) := by omega
                  clear hiv hS7 hs7
                  (refine wp_region_quiet_lit (by kernel_rfl) (by kernel_rfl) ?_; (repeat (first | ((with_reducible refine wpQuiet_step (fun K hK => ?_)); go_simp; (with_reducible refine hK _ ?_); clear hK K) | ((with_reducible refine wpQuiet_off (by kernel_rfl) (fun K hK => ?_)); go_simp; (with_reducible refine hK _ ?_); clear hK K))); (with_reducible refine wpQuiet_nil ?_); intro _ hw'; obtain ⟨nq, hw''⟩ := hw'; subst hw'')
                  first | rw [HIV.out] | rw [HIV2.out]
                  obtain ⟨w8, hw8⟩ : ∃ w8, w7.drewN nq = w8 := ⟨_, rfl⟩
                  have hE8 : E w7 w8 := by rw [← hw8]; exact (E.refl w7).drewN nq
                  rw [hw8]
                  have hJ8 := HJ.out.keep _ _ _ w8 hJ7.out (fun j hj => hE8.block (HJ.out.lt _ _ _ hJ7.out j hj).2)
                  have HPW8 := Lib.hid (HPW7.out.step (Ex.of_e hE8) (fun j hj => .inl hj))
                  have hbx8 : w8.heap[Bx]? = _ := (hE8.block (lt_blk HBX7.out)).trans HBX7.out
                  clear f0 f1 f2 g1 g2 csx e0 e1 e2 hw8 hE8 hJ7 HPW7 HBX7
                  obtain ⟨f0, f1, f2, g1, g2⟩ := cells3_of hbx8
                  have HBX8 := Lib.hid hbx8
                  clear hbx8
                  go_upto_region 10 with fail
                  obtain ⟨fn, tmps, assign, body, hyl, hR⟩ := HJ.out.go _ _ _ (f, a + ov, iv) true 2 hon hJ8 (by have h1 := hlen.out; have h2 := HCB.out; have h3 := hl6.out; omega) (possB_iff.2 (by simp only; omega)) ⟨hwx.1, wf_of_i64 (by simp only; omega) (by simp only; omega), wf_of_i64 (by simp only; omega) (by simp only; omega)⟩
                  unfold ltV at hyl
                  simp only at hyl
                  refine (wpIn_wide (n := 3)).1 ?_
                  gi_wp2
                  refine hR.mono ?_
                  rintro e w9 ⟨rfl, X9, hJ9, hXn, hXXn⟩
                  clear hR hyl
                  gi_wp2
                  have hbx9 : w9.heap[Bx]? = _ := (hXn.block _ (lt_blk HBX8.out) hnX6'.out).trans HBX8.out
                  have hnX9 : ¬ X9 Bx := fun hh => by
                    rcases hXXn _ hh with h1 | h1
                    · exact hnX6'.out h1
                    · have := lt_blk HBX8.out; omega
                  have HPW9 := Lib.hid (HPW8.out.step hXn hXXn)
                  clear f0 f1 f2 g1 g2 hJ8 hXn hXXn
                  obtain ⟨f0, f1, f2, g1, g2⟩ := cells3_of hbx9
                  have hwr11 : IntKind.i64.wrap (a + ov + iv) = a + ov + iv := by rw [IntKind.wrap_i64]; omega
                  have hwr12 : IntKind.i64.wrap (m - ov - iv) = m - ov - iv := by rw [IntKind.wrap_i64]; omega
                  have hbxA := Lib.hid (set12 (y' := .int .i64 (a + ov + iv)) (z' := .int .i64 (m - ov - iv)) hbx9)
                  have hXA : Ex (fun j => j = Bx) w9 ((w9.setCell ⟨Bx, 1, none⟩ (.int .i64 (a + ov + iv))).setCell ⟨Bx, 2, none⟩ (.int .i64 (m - ov - iv))) := ((Ex.refl (fun j => j = Bx) w9).setCell ⟨Bx, 1, none⟩ (.inr rfl) _).setCell ⟨Bx, 2, none⟩ (.inr rfl) _
                  have hJA := Lib.hid (HJ.out.keep _ _ _ _ hJ9 (fun j hj => hXA.block j (HJ.out.lt _ _ _ hJ9 j hj).2 (fun e => hnX9 (e ▸ hj))))
                  have HPWA := Lib.hid (HPW9.out.own hB1 hXA)
                  have HPTA := Lib.hid (show Parts s (U (l.take k) ++ ul (f, a0, a + ov + iv - a0)) (ps ++ [((f, a + ov, iv), true)]) by
                    have hq := HP6.out.in_ (x := (f, a + ov, iv)) (by simp only; omega) (AtPlace.inside HY.out HGF.out (by simp only; omega) (by simp only; omega))
                    have he := ul_cut (f := f) (a := a0) (n := a + ov + iv - a0) (k := a + ov - a0) (by omega) (by omega)
                    rw [show a0 + (a + ov - a0) = a + ov by omega, show a + ov + iv - a0 - (a + ov - a0) = iv by omega] at he
                    rw [he, ← List.append_assoc]; exact hq)
                  have hallA := Lib.hid (show ∀ p ∈ ps ++ [((f, a + ov, iv), true)], on p.2 = true from fun p hp => by
                    rcases List.mem_append.1 hp with hp | hp
                    · exact hall6.out p hp
                    · rw [List.mem_singleton] at hp; subst hp; exact hon)
                  have hlenA := Lib.hid (show (ps ++ [((f, a + ov, iv), true)]).length + 2 * (ns - (i + 1)) + 1 ≤ (k + 1) * (2 * ns + 1) by
                    rw [List.length_append, List.length_singleton]; have h1 := hlen.out; have h3 := hl6.out; omega)
                  have hnXA := Lib.hid hnX9
                  have hamA := Lib.hid (show a0 ≤ a + ov + iv ∧ 0 ≤ m - ov - iv ∧ a + ov + iv + (m - ov - iv) = a0 + m0 by omega)
                  have hatA := Lib.hid (show 0 < m - ov - iv → AtPlace s f (a + ov + iv) (i + 1) from fun hh => at6.out.next HY.out HGF.out (by simp only; omega) HCan.out)
                  clear hbx9 hnX9 hXA hJ9 HPW9 HP6 hall6 hl6 at6 hall hlen ham hat hnX hJi hPW hPt
                  go_wp2_with fail
                  first
                    | exact ⟨⟨i + 1, _, _, _, _, by omega, by go_num, hbxA.out, hJA.out, HPWA.out, HPTA.out, hallA.out, hlenA.out, hnXA.out, hamA.out, hatA.out⟩, by simp [intOf]; omega⟩
                    | (go_roundw
                       case rel => exact ⟨i + 1, _, _, _, _, by omega, by go_num, hbxA.out, hJA.out, HPWA.out, HPTA.out, hallA.out, hlenA.out, hnXA.out, hamA.out, hatA.out⟩
                       case measure => simp [intOf]; omega)
              · have dya : decide (y.2.1 < a + m) = false := by simpa using hya
                have HNO := Lib.hid (show ∀ z, s[i]? = some z → z.1 ≠ f ∨ a + m ≤ z.2.1 from fun z hz' => by rw [HY.out] at hz'; injection hz' with hz'; subst hz'; right; omega)
                obtain ⟨g, d, q⟩ := y
                simp only at e0 e1 e2 hyy hwrY df dya
                have HDYA := Lib.hid dya
                clear hy hf hya
                clear hAM
                go_upto_region 4 with fail
                (refine wp_region_quiet_lit (by kernel_rfl) (by kernel_rfl) ?_; (repeat (first | ((with_reducible refine wpQuiet_step (fun K hK => ?_)); go_simp; (with_reducible refine hK _ ?_); clear hK K) | ((with_reducible refine wpQuiet_off (by kernel_rfl) (fun K hK => ?_)); go_simp; (with_reducible refine hK _ ?_); clear hK K))); (with_reducible refine wpQuiet_nil ?_); intro _ hw'; obtain ⟨nq, hw''⟩ := hw'; subst hw'')
                try rw [HDYA.out]
                have hAM := ham.out
                go_upto_region 12 with fail
                have HCB := Lib.hid (show (k + 1) * (2 * ns + 1) ≤ 300000 from Nat.le_trans (Nat.mul_le_mul_right _ (by omega)) HCnt.out)
                obtain ⟨w4, hw4⟩ : ∃ w4, wr.drewN nq = w4 := ⟨_, rfl⟩
                rw [hw4]
                have hEw4 : E wr w4 := by rw [← hw4]; exact (E.refl wr).drewN nq
                clear hw4
                have hJ4 := HJ.out.keep _ _ _ w4 hJi.out (fun j hj => hEw4.block (HJ.out.lt _ _ _ hJi.out j hj).2)
                have HPW4 := Lib.hid (hPW.out.step (Ex.of_e hEw4) (fun j hj => .inl hj))
                have hbx4 : w4.heap[Bx]? = _ := (hEw4.block (lt_blk hbx)).trans hbx
                clear f0 f1 f2 g1 g2 csx hSx hsx hbx hEw4
                obtain ⟨f0, f1, f2, g1, g2⟩ := cells3_of hbx4
                have hPSo := hPt.out.out_ (x := (f, a, m)) (by simp only; omega) ((hat.out hm).gap HCan.out HNO.out)
                have hcut := ul_cut (f := f) (a := a0) (n := m0) (k := a - a0) (by omega) (by omega)
                rw [show a0 + (a - a0) = a by omega, show m0 - (a - a0) = m by omega] at hcut
                have HPS := Lib.hid (show Parts s (U (l.take (k + 1))) (ps ++ [((f, a, m), false)]) by rw [U_take_succ HX.out, U_app, U_one, hcut, ← List.append_assoc]; exact hPSo)
                have HUS := Lib.hid (show ∀ u ∈ U (l.take (k + 1)), u ∈ U l from fun u hu => by
                  obtain ⟨z, hz, hu⟩ := mem_U.1 hu; exact mem_U.2 ⟨z, List.mem_of_mem_take hz, hu⟩)
                clear hPSo hcut hbx4 HNO
                cases hof : on false
                · obtain ⟨fn, tmps, assign, body, hyl, hR⟩ := HJ.out.stop _ _ _ (f, a, m) false 2 hof hJ4 (by have h1 := hlen.out; have h2 := HCB.out; omega) (possB_iff.2 (by simp only; omega)) ⟨hwx.1, wf_of_i64 (by simp only; omega) (by simp only; omega), wf_of_i64 (by simp only; omega) (by simp only; omega)⟩
                  unfold ltV at hyl
                  simp only at hyl
                  refine (wpIn_wide (n := 3)).1 ?_
                  gi_wp2
                  refine hR.mono ?_
                  rintro e w6 ⟨rfl, X6, hJ6, hXn, hXXn⟩
                  clear hR hyl
                  gi_wp2
                  go_wp2_with fail
                  refine bodyPost_ret (results_none rfl _ _ _) rfl ?_
                  exact ⟨⟨_, rfl⟩, _, _, _, HPS.out, .inr ⟨hJ6, HUS.out, _, List.mem_append_right _ (List.mem_singleton.2 rfl), hof⟩, (HPW4.out.step hXn hXXn).ex, (HPW4.out.step hXn hXXn).xx⟩
                · obtain ⟨fn, tmps, assign, body, hyl, hR⟩ := HJ.out.go _ _ _ (f, a, m) false 2 hof hJ4 (by have h1 := hlen.out; have h2 := HCB.out; omega) (possB_iff.2 (by simp only; omega)) ⟨hwx.1, wf_of_i64 (by simp only; omega) (by simp only; omega), wf_of_i64 (by simp only; omega) (by simp only; omega)⟩
                  unfold ltV at hyl
                  simp only at hyl
                  refine (wpIn_wide (n := 3)).1 ?_
                  gi_wp2
                  refine hR.mono ?_
                  rintro e w6 ⟨rfl, X6, hJ6, hXn, hXXn⟩
                  clear hR hyl
                  gi_wp2
                  have HPW6 := Lib.hid (HPW4.out.step hXn hXXn)
                  have HJ6 := Lib.hid hJ6
                  have hall6 := Lib.hid (show ∀ p ∈ ps ++ [((f, a, m), false)], on p.2 = true from fun p hp => by
                    rcases List.mem_append.1 hp with hp | hp
                    · exact hall.out p hp
                    · rw [List.mem_singleton] at hp; subst hp; exact hof)
                  have hl6 := Lib.hid (show (ps ++ [((f, a, m), false)]).length ≤ (k + 1) * (2 * ns + 1) by rw [List.length_append, List.length_singleton]; have h1 := hlen.out; omega)
                  clear hXn hXXn hJ4 hJ6 HPW4 hall hlen ham hat hnX hJi hPW hPt
                  go_wp2_with fail
                  first
                    | exact ⟨⟨k + 1, _, _, by omega, by go_num, HJ6.out, HPW6.out, HPS.out, hall6.out, hl6.out⟩, by simp [intOf]; omega⟩
                    | (go_roundw
                       case rel => exact ⟨k + 1, _, _, by omega, by go_num, HJ6.out, HPW6.out, HPS.out, hall6.out, hl6.out⟩
                       case measure => simp [intOf]; omega)
            · have df : (y.1 == f) = false := by simpa using hf
              have HNO := Lib.hid (show ∀ z, s[i]? = some z → z.1 ≠ f ∨ a + m ≤ z.2.1 from fun z hz' => by rw [HY.out] at hz'; injection hz' with hz'; subst hz'; left; exact hf)
              obtain ⟨g, d, q⟩ := y
              simp only at e0 e1 e2 hyy hwrY df
              clear hy hf
              clear hAM
              go_upto_region 4 with fail
              (refine wp_region_quiet_lit (by kernel_rfl) (by kernel_rfl) ?_; (repeat (first | ((with_reducible refine wpQuiet_step (fun K hK => ?_)); go_simp; (with_reducible refine hK _ ?_); clear hK K) | ((with_reducible refine wpQuiet_off (by kernel_rfl) (fun K hK => ?_)); go_simp; (with_reducible refine hK _ ?_); clear hK K))); (with_reducible refine wpQuiet_nil ?_); intro _ hw'; obtain ⟨nq, hw''⟩ := hw'; subst hw'')
              have hAM := ham.out
              go_upto_region 12 with fail
              have HCB := Lib.hid (show (k + 1) * (2 * ns + 1) ≤ 300000 from Nat.le_trans (Nat.mul_le_mul_right _ (by omega)) HCnt.out)
              obtain ⟨w4, hw4⟩ : ∃ w4, wr.drewN nq = w4 := ⟨_, rfl⟩
              rw [hw4]
              have hEw4 : E wr w4 := by rw [← hw4]; exact (E.refl wr).drewN nq
              clear hw4
              have hJ4 := HJ.out.keep _ _ _ w4 hJi.out (fun j hj => hEw4.block (HJ.out.lt _ _ _ hJi.out j hj).2)
              have HPW4 := Lib.hid (hPW.out.step (Ex.of_e hEw4) (fun j hj => .inl hj))
              have hbx4 : w4.heap[Bx]? = _ := (hEw4.block (lt_blk hbx)).trans hbx
              clear f0 f1 f2 g1 g2 csx hSx hsx hbx hEw4
              obtain ⟨f0, f1, f2, g1, g2⟩ := cells3_of hbx4
              have hPSo := hPt.out.out_ (x := (f, a, m)) (by simp only; omega) ((hat.out hm).gap HCan.out HNO.out)
              have hcut := ul_cut (f := f) (a := a0) (n := m0) (k := a - a0) (by omega) (by omega)
              rw [show a0 + (a - a0) = a by omega, show m0 - (a - a0) = m by omega] at hcut
              have HPS := Lib.hid (show Parts s (U (l.take (k + 1))) (ps ++ [((f, a, m), false)]) by rw [U_take_succ HX.out, U_app, U_one, hcut, ← List.append_assoc]; exact hPSo)
              have HUS := Lib.hid (show ∀ u ∈ U (l.take (k + 1)), u ∈ U l from fun u hu => by
                obtain ⟨z, hz, hu⟩ := mem_U.1 hu; exact mem_U.2 ⟨z, List.mem_of_mem_take hz, hu⟩)
              clear hPSo hcut hbx4 HNO
              cases hof : on false
              · obtain ⟨fn, tmps, assign, body, hyl, hR⟩ := HJ.out.stop _ _ _ (f, a, m) false 2 hof hJ4 (by have h1 := hlen.out; have h2 := HCB.out; omega) (possB_iff.2 (by simp only; omega)) ⟨hwx.1, wf_of_i64 (by simp only; omega) (by simp only; omega), wf_of_i64 (by simp only; omega) (by simp only; omega)⟩
                unfold ltV at hyl
                simp only at hyl
                refine (wpIn_wide (n := 3)).1 ?_
                gi_wp2
                refine hR.mono ?_
                rintro e w6 ⟨rfl, X6, hJ6, hXn, hXXn⟩
                clear hR hyl
                gi_wp2
                go_wp2_with fail
                refine bodyPost_ret (results_none rfl _ _ _) rfl ?_
                exact ⟨⟨_, rfl⟩, _, _, _, HPS.out, .inr ⟨hJ6, HUS.out, _, List.mem_append_right _ (List.mem_singleton.2 rfl), hof⟩, (HPW4.out.step hXn hXXn).ex, (HPW4.out.step hXn hXXn).xx⟩
              · obtain ⟨fn, tmps, assign, body, hyl, hR⟩ := HJ.out.go _ _ _ (f, a, m) false 2 hof hJ4 (by have h1 := hlen.out; have h2 := HCB.out; omega) (possB_iff.2 (by simp only; omega)) ⟨hwx.1, wf_of_i64 (by simp only; omega) (by simp only; omega), wf_of_i64 (by simp only; omega) (by simp only; omega)⟩
                unfold ltV at hyl
                simp only at hyl
                refine (wpIn_wide (n := 3)).1 ?_
                gi_wp2
                refine hR.mono ?_
                rintro e w6 ⟨rfl, X6, hJ6, hXn, hXXn⟩
                clear hR hyl
                gi_wp2
                have HPW6 := Lib.hid (HPW4.out.step hXn hXXn)
                have HJ6 := Lib.hid hJ6
                have hall6 := Lib.hid (show ∀ p ∈ ps ++ [((f, a, m), false)], on p.2 = true from fun p hp => by
                  rcases List.mem_append.1 hp with hp | hp
                  · exact hall.out p hp
                  · rw [List.mem_singleton] at hp; subst hp; exact hof)
                have hl6 := Lib.hid (show (ps ++ [((f, a, m), false)]).length ≤ (k + 1) * (2 * ns + 1) by rw [List.length_append, List.length_singleton]; have h1 := hlen.out; omega)
                clear hXn hXXn hJ4 hJ6 HPW4 hall hlen ham hat hnX hJi hPW hPt
                go_wp2_with fail
                first
                  | exact ⟨⟨k + 1, _, _, by omega, by go_num, HJ6.out, HPW6.out, HPS.out, hall6.out, hl6.out⟩, by simp [intOf]; omega⟩
                  | (go_roundw
                     case rel => exact ⟨k + 1, _, _, by omega, by go_num, HJ6.out, HPW6.out, HPS.out, hall6.out, hl6.out⟩
                     case measure => simp [intOf]; omega)
          · have din : decide (i < ns) = false := by simpa using hin
            have HNO := Lib.hid (show ∀ z, s[i]? = some z → z.1 ≠ f ∨ a + m ≤ z.2.1 from fun z hz' => by have := (List.getElem?_eq_some_iff.1 hz').1; rw [HLen.out.2] at this; omega)
            clear hAM
            go_upto_region 4 with fail
            (refine wp_region_quiet_lit (by kernel_rfl) (by kernel_rfl) ?_; (repeat (first | ((with_reducible refine wpQuiet_step (fun K hK => ?_)); go_simp; (with_reducible refine hK _ ?_); clear hK K) | ((with_reducible refine wpQuiet_off (by kernel_rfl) (fun K hK => ?_)); go_simp; (with_reducible refine hK _ ?_); clear hK K))); (with_reducible refine wpQuiet_nil ?_); intro _ hw'; obtain ⟨nq, hw''⟩ := hw'; subst hw'')
            have hAM := ham.out
            go_upto_region 12 with fail
            have HCB := Lib.hid (show (k + 1) * (2 * ns + 1) ≤ 300000 from Nat.le_trans (Nat.mul_le_mul_right _ (by omega)) HCnt.out)
            obtain ⟨w4, hw4⟩ : ∃ w4, wr.drewN nq = w4 := ⟨_, rfl⟩
            rw [hw4]
            have hEw4 : E wr w4 := by rw [← hw4]; exact (E.refl wr).drewN nq
            clear hw4
            have hJ4 := HJ.out.keep _ _ _ w4 hJi.out (fun j hj => hEw4.block (HJ.out.lt _ _ _ hJi.out j hj).2)
            have HPW4 := Lib.hid (hPW.out.step (Ex.of_e hEw4) (fun j hj => .inl hj))
            have hbx4 : w4.heap[Bx]? = _ := (hEw4.block (lt_blk hbx)).trans hbx
            clear f0 f1 f2 g1 g2 csx hSx hsx hbx hEw4
            obtain ⟨f0, f1, f2, g1, g2⟩ := cells3_of hbx4
            have hPSo := hPt.out.out_ (x := (f, a, m)) (by simp only; omega) ((hat.out hm).gap HCan.out HNO.out)
            have hcut := ul_cut (f := f) (a := a0) (n := m0) (k := a - a0) (by omega) (by omega)
            rw [show a0 + (a - a0) = a by omega, show m0 - (a - a0) = m by omega] at hcut
            have HPS := Lib.hid (show Parts s (U (l.take (k + 1))) (ps ++ [((f, a, m), false)]) by rw [U_take_succ HX.out, U_app, U_one, hcut, ← List.append_assoc]; exact hPSo)
            have HUS := Lib.hid (show ∀ u ∈ U (l.take (k + 1)), u ∈ U l from fun u hu => by
              obtain ⟨z, hz, hu⟩ := mem_U.1 hu; exact mem_U.2 ⟨z, List.mem_of_mem_take hz, hu⟩)
            clear hPSo hcut hbx4 HNO
            cases hof : on false
            · obtain ⟨fn, tmps, assign, body, hyl, hR⟩ := HJ.out.stop _ _ _ (f, a, m) false 2 hof hJ4 (by have h1 := hlen.out; have h2 := HCB.out; omega) (possB_iff.2 (by simp only; omega)) ⟨hwx.1, wf_of_i64 (by simp only; omega) (by simp only; omega), wf_of_i64 (by simp only; omega) (by simp only; omega)⟩
              unfold ltV at hyl
              simp only at hyl
              refine (wpIn_wide (n := 3)).1 ?_
              gi_wp2
              refine hR.mono ?_
              rintro e w6 ⟨rfl, X6, hJ6, hXn, hXXn⟩
              clear hR hyl
              gi_wp2
              go_wp2_with fail
              refine bodyPost_ret (results_none rfl _ _ _) rfl ?_
              exact ⟨⟨_, rfl⟩, _, _, _, HPS.out, .inr ⟨hJ6, HUS.out, _, List.mem_append_right _ (List.mem_singleton.2 rfl), hof⟩, (HPW4.out.step hXn hXXn).ex, (HPW4.out.step hXn hXXn).xx⟩
            · obtain ⟨fn, tmps, assign, body, hyl, hR⟩ := HJ.out.go _ _ _ (f, a, m) false 2 hof hJ4 (by have h1 := hlen.out; have h2 := HCB.out; omega) (possB_iff.2 (by simp only; omega)) ⟨hwx.1, wf_of_i64 (by simp only; omega) (by simp only; omega), wf_of_i64 (by simp only; omega) (by simp only; omega)⟩
              unfold ltV at hyl
              simp only at hyl
              refine (wpIn_wide (n := 3)).1 ?_
              gi_wp2
              refine hR.mono ?_
              rintro e w6 ⟨rfl, X6, hJ6, hXn, hXXn⟩
              clear hR hyl
              gi_wp2
              have HPW6 := Lib.hid (HPW4.out.step hXn hXXn)
              have HJ6 := Lib.hid hJ6
              have hall6 := Lib.hid (show ∀ p ∈ ps ++ [((f, a, m), false)], on p.2 = true from fun p hp => by
                rcases List.mem_append.1 hp with hp | hp
                · exact hall.out p hp
                · rw [List.mem_singleton] at hp; subst hp; exact hof)
              have hl6 := Lib.hid (show (ps ++ [((f, a, m), false)]).length ≤ (k + 1) * (2 * ns + 1) by rw [List.length_append, List.length_singleton]; have h1 := hlen.out; omega)
              clear hXn hXXn hJ4 hJ6 HPW4 hall hlen ham hat hnX hJi hPW hPt
              go_wp2_with fail
              first
                | exact ⟨⟨k + 1, _, _, by omega, by go_num, HJ6.out, HPW6.out, HPS.out, hall6.out, hl6.out⟩, by simp [intOf]; omega⟩
                | (go_roundw
                   case rel => exact ⟨k + 1, _, _, by omega, by go_num, HJ6.out, HPW6.out, HPS.out, hall6.out, hl6.out⟩
                   case measure => simp [intOf]; omega)
        · have dm : decide (0 < m) = false := by simpa using hm
          have hm0 : m = 0 := by omega
          have HPS := Lib.hid (show Parts s (U (l.take (k + 1))) ps by
            rw [U_take_succ HX.out, U_app, U_one, show m0 = a - a0 by omega]; exact hPt.out)
          have hl6 := Lib.hid (show ps.length ≤ (k + 1) * (2 * ns + 1) by have h1 := hlen.out; omega)
          have HJ6 := Lib.hid (HJ.out.keep _ _ _ (wr.drew) hJi.out (fun j hj => rfl))
          have HPW6 := Lib.hid (hPW.out.step (Ex.of_e ((E.refl wr).drew)) (fun j hj => .inl hj))
          clear hm0
          clear hAM
          go_upto_region 4 with fail
          (refine wp_region_quiet_lit (by kernel_rfl) (by kernel_rfl) ?_; (repeat (first | ((with_reducible refine wpQuiet_step (fun K hK => ?_)); go_simp; (with_reducible refine hK _ ?_); clear hK K) | ((with_reducible refine wpQuiet_off (by kernel_rfl) (fun K hK => ?_)); go_simp; (with_reducible refine hK _ ?_); clear hK K))); (with_reducible refine wpQuiet_nil ?_); intro _ hw'; obtain ⟨nq, hw''⟩ := hw'; subst hw'')
          have hAM := ham.out
          obtain ⟨w4, hw4⟩ : ∃ w4, wr.drewN nq = w4 := ⟨_, rfl⟩
          rw [hw4]
          have hEw4 : E wr w4 := by rw [← hw4]; exact (E.refl wr).drewN nq
          clear hw4
          have HJ4 := Lib.hid (HJ.out.keep _ _ _ w4 hJi.out (fun j hj => hEw4.block (HJ.out.lt _ _ _ hJi.out j hj).2))
          have HPW4 := Lib.hid (hPW.out.step (Ex.of_e hEw4) (fun j hj => .inl hj))
          have hbx4 : w4.heap[Bx]? = _ := (hEw4.block (lt_blk hbx)).trans hbx
          clear f0 f1 f2 g1 g2 csx hSx hsx hbx hEw4
          obtain ⟨f0, f1, f2, g1, g2⟩ := cells3_of hbx4
          go_wp2_with fail
          first
            | exact ⟨⟨k + 1, _, _, by omega, by go_num, HJ4.out, HPW4.out, HPS.out, hall.out, hl6.out⟩, by simp [intOf]; omega⟩
            | (go_roundw
               case rel => exact ⟨k + 1, _, _, by omega, by go_num, HJ4.out, HPW4.out, HPS.out, hall.out, hl6.out⟩
               case measure => simp [intOf]; omega)
    · have hfin := Lib.hid (show Parts s (U l) ps by
        have := hPt.out
        rw [List.take_of_length_le (by rw [HLen.out.1]; omega)] at this
        exact this)
      go_wp2_with fail
      go_end0
      exact ⟨⟨_, rfl⟩, ps, U l, X, hfin.out, .inl ⟨hJk.out, rfl, hall.out⟩, hW.out.ex, hW.out.xx⟩
end Go.Proofs.YtmeplpiamkaniaaGreat
namespace Go.Proofs.YtmeplpiamkaniaaGreat
set_option linter.unusedVariables false
set_option linter.unusedSimpArgs false
open Go.RowKit Go.Shelf
attribute [local go_sem] Oper.semAt_some
theorem spPieces_c (A : Option Addr) (n c : Nat) (As : Option Addr) (ns cs : Nat) (w : World) :
    Calls Tryz.prog 99 #[.slice A n c, .slice As ns cs] w fun e w' => e = .returned (.func (.func 129) #[] #[ptr w.heap.size, ptr (w.heap.size + 1)]) ∧
      w' = (w.alloc (.cells #[.slice A n c] 41)).alloc (.cells #[.slice As ns cs] 41) := by
  unfold ptr
  go_enter Tryz.func99, Tryz.ntmps99
  go_wp2_with fail
  go_ret
  exact ⟨rfl, rfl⟩
set_option maxHeartbeats 8000000 in
set_option maxRecDepth 100000 in
theorem spDivide_c (w : World) (A : Option Addr) (n c : Nat) (l : List Lt) (As : Option Addr) (ns cs : Nat) (s : List Lt) (hA : LotsAt w A n c l) (hS : LotsAt w As ns cs s) (hp : ∀ x ∈ l, possB x = true) (hps : ∀ x ∈ s, possB x = true) (hcan : Canon s) (hcnt : n * (2 * ns + 1) ≤ 300000) (hns : ns ≤ 100000) :
    Calls Tryz.prog 64 #[.slice A n c, .slice As ns cs] w (RetDiv w (fun _ => False) (glue (inU s (U l))) (glue (outU s (U l)))) := by
  have HAN := Lib.hid (And.intro hA.obl hS.obl)
  have HP := Lib.hid (And.intro hp hps)
  have HCan := Lib.hid hcan
  have HCnt := Lib.hid hcnt
  clear hp hps hcan hcnt
  refine (callsIn_wide (n := 3)).1 ?_
  refine callsIn_of_wp_marks Tryz.func64 rfl trivial ?_ rfl
  simp only [Tryz.ntmps64, List.size_toArray, List.length_cons, List.length_nil, Nat.reduceAdd, Nat.reduceSub, Array.replicate_succ, Array.replicate_zero, List.push_toArray, List.append_toArray, List.nil_append, List.cons_append]
  gi_wp2_with (refine ⟨trivial, ?_⟩; gi_at_call 99; refine (callsIn_wide.2 (spPieces_c A n c As ns cs _)).mono ?_; rintro e w' ⟨rfl, rfl⟩)
  obtain ⟨w2, hw2⟩ : ∃ w2, ((((w.alloc (.cells #[.slice none 0 0] 41)).alloc (.cells #[.slice none 0 0] 41)).alloc (.cells #[.slice A n c] 41)).alloc (.cells #[.slice As ns cs] 41)) = w2 := ⟨_, rfl⟩
  have hEw : E w w2 := by rw [← hw2]; exact ((((E.refl w).alloc _).alloc _).alloc _).alloc _
  have hz2 : w2.heap.size = w.heap.size + 4 := by rw [← hw2]; simp
  have hbt : w2.heap[w.heap.size]? = some (.cells #[.slice none 0 0] 41 (0, 0)) := by
    rw [← hw2, Below.heap_alloc _ _ _ (by simp only [World.size_alloc]; omega), Below.heap_alloc _ _ _ (by simp only [World.size_alloc]; omega), Below.heap_alloc _ _ _ (by simp)]; exact heap_alloc_new _ _
  have hbl : w2.heap[w.heap.size + 1]? = some (.cells #[.slice none 0 0] 41 (0, 0)) := by
    rw [← hw2, Below.heap_alloc _ _ _ (by simp only [World.size_alloc]; omega), Below.heap_alloc _ _ _ (by simp)]
    have := heap_alloc_new (w.alloc (.cells #[.slice none 0 0] 41)) (.cells #[.slice none 0 0] 41)
    rw [World.size_alloc] at this; exact this
  have hba : w2.heap[w.heap.size + 1 + 1]? = some (.cells #[.slice A n c] 41 (0, 0)) := by
    rw [← hw2, Below.heap_alloc _ _ _ (by simp)]
    have := heap_alloc_new ((w.alloc (.cells #[.slice none 0 0] 41)).alloc (.cells #[.slice none 0 0] 41)) (.cells #[.slice A n c] 41)
    rw [World.size_alloc, World.size_alloc] at this; exact this
  have hbc : w2.heap[w.heap.size + 1 + 1 + 1]? = some (.cells #[.slice As ns cs] 41 (0, 0)) := by
    rw [← hw2]
    have := heap_alloc_new (((w.alloc (.cells #[.slice none 0 0] 41)).alloc (.cells #[.slice none 0 0] 41)).alloc (.cells #[.slice A n c] 41)) (.cells #[.slice As ns cs] 41)
    rw [World.size_alloc, World.size_alloc, World.size_alloc] at this; exact this
  rw [hw2]
  clear hw2
  refine wpIn_wide.2 (wp_rangeX (gf := 129) (lb := #[ptr (w.heap.size + 1 + 1), ptr (w.heap.size + 1 + 1 + 1)]) rfl Tryz.call129
    (Post := fun W' => ∃ A1 n1 c1 A2 n2 c2, W'.heap[w.heap.size]? = some (.cells #[.slice A1 n1 c1] 41 (0, 0)) ∧ W'.heap[w.heap.size + 1]? = some (.cells #[.slice A2 n2 c2] 41 (0, 0)) ∧ W'.heap[w2.heap.size]? = some (.deferred (some [])) ∧ OwnL W' (w2.heap.size + 2) A1 n1 c1 (glue (inU s (U l))) ∧ OwnL W' (w2.heap.size + 2) A2 n2 c2 (glue (outU s (U l))) ∧ apartS A1 A2 ∧ (∀ y ∈ glue (inU s (U l)), possB y = true) ∧ (∀ y ∈ glue (outU s (U l)), possB y = true) ∧ Ex (fun _ => False) w W')
    (PostX := fun _ => False) ?hit ?done (fun _ _ h => h.elim))
  case hit =>
    intro r hr1 hr2 hr3 hr4 hr5 hr6
    obtain ⟨W1, hW1⟩ : ∃ W1, (w2.alloc (.deferred (some []))).alloc (.loop r) = W1 := ⟨_, rfl⟩
    have hE21 : E w2 W1 := by rw [← hW1]; exact ((E.refl _).alloc _).alloc _
    have hz1 : W1.heap.size = w2.heap.size + 2 := by rw [← hW1, World.size_alloc, World.size_alloc]
    have hD1 : W1.heap[w2.heap.size]? = some (.deferred (some [])) := by rw [← hW1, Below.heap_alloc _ _ _ (by simp)]; exact heap_alloc_new _ _
    have hL1 : W1.heap[w2.heap.size + 1]? = some (.loop r) := by
      have := heap_alloc_new (w2.alloc (.deferred (some []))) (.loop r)
      rw [World.size_alloc, hW1] at this; exact this
    rw [hW1]
    clear hW1
    obtain ⟨D, hDd⟩ : ∃ D, w2.heap.size = D := ⟨_, rfl⟩
    obtain ⟨L, hLd⟩ : ∃ L, w2.heap.size + 1 = L := ⟨_, rfl⟩
    have hq1 : w.heap.size + 4 = D := by omega
    have hq2 : D + 1 = L := by omega
    rw [hLd] at hL1
    rw [hDd] at hD1
    have hJ : EatsX L w.heap.size (fun _ => true) (JV (L + 1) L D w.heap.size (w.heap.size + 1) r) (fun _ _ _ => False) := by
      refine ⟨?_, ?_, ?_, fun _ _ _ _ _ _ h => by cases h⟩
      · rintro ps X W ⟨A1, n1, c1, A2, n2, c2, hD, rfl⟩ i hi
        refine ⟨?_, hD.xlt hi⟩
        rcases hi with rfl | rfl | rfl | rfl | hi | hi
        · omega
        · omega
        · omega
        · omega
        · have := (hD.o1.ltN i hi).1; omega
        · have := (hD.o2.ltN i hi).1; omega
      · rintro ps X W W' ⟨A1, n1, c1, A2, n2, c2, hD, rfl⟩ hk
        exact ⟨A1, n1, c1, A2, n2, c2, hD.keep hk, rfl⟩
      intro ps X W x f m _ hj hps hpx' hwx
      have hpx : x.2.2 ≠ 0 → possB x = true := fun _ => hpx'
      cases f
      · -- false
        obtain ⟨A1, n1, c1, A2, n2, c2, hD, rfl⟩ := hj
        have hlW : W.heap.size ≠ L := by have := lt_blk hD.l; omega
        have hszL : L < W.heap.size := lt_blk hD.l
        refine (yield_round (W2 := W.alloc (.cells #[.int .i64 x.1, .int .i64 x.2.1, .int .i64 x.2.2] 30)) (a₁ := { tmps := #[.slice A n c, .slice As ns cs, undef, undef, .pointer (some ⟨w.heap.size, 0, none⟩), .pointer (some ⟨w.heap.size + 1, 0, none⟩), .pointer (some ⟨W.heap.size, 0, none⟩), .bool false, .slice A n c, .slice As ns cs, .func (.func 129) #[] #[ptr (w.heap.size + 1 + 1), ptr (w.heap.size + 1 + 1 + 1)], .agg #[.int .i64 x.1, .int .i64 x.2.1, .int .i64 x.2.2], .bool false, undef, undef, undef, undef, undef, undef, undef, undef, undef], defers := [] })
          hD.l (((E.refl W).alloc _).block hszL |>.trans hD.l) hr1 hr2 (by rw [hr4]; rfl) (R := fun W' => ∃ X', JV (L + 1) L D w.heap.size (w.heap.size + 1) r (ps ++ [(x, false)]) X' W' ∧ Ex (XV L D w.heap.size (w.heap.size + 1) A1 A2) W W' ∧ ∀ i, X' i → XV L D w.heap.size (w.heap.size + 1) A1 A2 i ∨ W.heap.size ≤ i) (Rx := fun _ => False) ?assign ?body).mono (fun e W' h => ?post)
        case post =>
          rcases h with h | ⟨_, h⟩
          · exact h
          · exact h.elim
        case assign =>
          intro K hK
          unfold ltV
          rw [hr3, hr4, hr5]
          gi_wp2
          exact hK
        case body =>
          obtain ⟨r', hr'⟩ : ∃ r' : Loop, { r with state := .busy } = r' := ⟨_, rfl⟩
          rw [hr', hr6]
          clear hr'
          have hD := hD.swap
          obtain ⟨V0, hV0⟩ : ∃ V0, (W.alloc (.cells #[.int .i64 x.1, .int .i64 x.2.1, .int .i64 x.2.2] 30)).putObj L (.loop r') = V0 := ⟨_, rfl⟩
          have hX0 : Ex (fun i => i = L) W V0 := by rw [← hV0]; exact ((Ex.refl (fun i => i = L) W).alloc _).put L _ (.inr rfl)
          have hz0 : V0.heap.size = W.heap.size + 1 := by rw [← hV0, World.putObj_size, World.size_alloc]
          have hbx : V0.heap[W.heap.size]? = some (.cells #[.int .i64 x.1, .int .i64 x.2.1, .int .i64 x.2.2] 30 (0, 0)) := by
            rw [← hV0, World.putObj_heap_other (by have := lt_blk hD.l; omega)]; exact heap_alloc_new _ _
          have hb1 : V0.heap[w.heap.size + 1]? = _ := (hX0.block _ (lt_blk hD.b1) hD.ne.2.1).trans hD.b1
          have hO1 : OwnL V0 (L + 1) A2 n2 c2 (putL [] (sel false ps)) := hD.o1.ex hX0 (fun b hb e => by have := (hD.o1.ltN b hb).1; omega)
          have HP := Lib.hid (append_c x A2 n2 c2 (L + 1) _ V0 hO1 hD.p1 hpx hwx (by omega) (by have := sel_len false ps; have := hD.o1.1; omega))
          have HSt := Lib.hid (fun (V4 : World) (A' : Option Addr) (n' c' : Nat) (hO : OwnL V4 (L + 1) A' n' c' (addL (putL [] (sel false ps)) x)) (hG : V0.grownBy V4 (ob A2)) (hor : ob A' = ob A2 ∨ ∀ b, ob A' = some b → V0.heap.size ≤ b) =>
            hD.step (by omega) (o := .cells #[.int .i64 x.1, .int .i64 x.2.1, .int .i64 x.2.2] 30) (r' := r') (V4 := V4) hO (by rw [hV0]; exact hG) (by rw [hV0]; exact hor) (poss_add hD.p1 hpx))
          have hltB := lt_blk hb1
          have hA1b : ∀ k, ob A2 = some k → L + 1 ≤ k := fun k hk => (hD.o1.ltN k hk).1
          have hLB1 := hD.lt.2.2.1
          have cb := (cell_one hb1).1
          have cx := And.intro (cell_of_row _ _ 0 _ _ _ hbx) (And.intro (cell_of_row _ _ 1 _ _ _ hbx) (cell_of_row _ _ 2 _ _ _ hbx))
          simp only [List.getElem?_toArray, List.getElem?_cons_zero, List.getElem?_cons_succ] at cx
          obtain ⟨cx0, cx1, cx2⟩ := cx
          have HB1 := Lib.hid hb1
          rw [hV0]
          clear hV0 hX0 hbx hD hO1 hb1
          unfold ltV at HP
          gi_wp2_with (refine ⟨trivial, (fun h => absurd h (by decide)), ?_⟩; gi_at_call 62; refine (CallsIn.inRound L (callsIn_wide.2 HP.out)).mono ?_; rintro e V4 ⟨A', n', c', rfl, hO4, hG4, hor4⟩; have hb4 : V4.heap[w.heap.size + 1]? = _ := (hG4.block (w.heap.size + 1) hltB (fun e => by have := hA1b (w.heap.size + 1) e.symm; omega)).trans HB1.out; have c4 := (cell_one hb4).1; have f4 := (cell_one hb4).2)
          obtain ⟨g1, g2, g3, g4⟩ := HSt.out V4 A' n' c' hO4 hG4 hor4
          exact ⟨g1, _, ⟨A1, n1, c1, A', n', c', by rw [sel_hit false ps x, show true = !false from rfl, sel_miss false ps x]; exact g2.swap, rfl⟩, g3.mono (fun _ _ h => h.swap), fun i hi => (g4 i hi.swap).imp XV.swap id⟩
      · -- true
        obtain ⟨A1, n1, c1, A2, n2, c2, hD, rfl⟩ := hj
        have hlW : W.heap.size ≠ L := by have := lt_blk hD.l; omega
        have hszL : L < W.heap.size := lt_blk hD.l
        refine (yield_round (W2 := W.alloc (.cells #[.int .i64 x.1, .int .i64 x.2.1, .int .i64 x.2.2] 30)) (a₁ := { tmps := #[.slice A n c, .slice As ns cs, undef, undef, .pointer (some ⟨w.heap.size, 0, none⟩), .pointer (some ⟨w.heap.size + 1, 0, none⟩), .pointer (some ⟨W.heap.size, 0, none⟩), .bool true, .slice A n c, .slice As ns cs, .func (.func 129) #[] #[ptr (w.heap.size + 1 + 1), ptr (w.heap.size + 1 + 1 + 1)], .agg #[.int .i64 x.1, .int .i64 x.2.1, .int .i64 x.2.2], .bool true, undef, undef, undef, undef, undef, undef, undef, undef, undef], defers := [] })
          hD.l (((E.refl W).alloc _).block hszL |>.trans hD.l) hr1 hr2 (by rw [hr4]; rfl) (R := fun W' => ∃ X', JV (L + 1) L D w.heap.size (w.heap.size + 1) r (ps ++ [(x, true)]) X' W' ∧ Ex (XV L D w.heap.size (w.heap.size + 1) A1 A2) W W' ∧ ∀ i, X' i → XV L D w.heap.size (w.heap.size + 1) A1 A2 i ∨ W.heap.size ≤ i) (Rx := fun _ => False) ?assign ?body).mono (fun e W' h => ?post)
        case post =>
          rcases h with h | ⟨_, h⟩
          · exact h
          · exact h.elim
        case assign =>
          intro K hK
          unfold ltV
          rw [hr3, hr4, hr5]
          gi_wp2
          exact hK
        case body =>
          obtain ⟨r', hr'⟩ : ∃ r' : Loop, { r with state := .busy } = r' := ⟨_, rfl⟩
          rw [hr', hr6]
          clear hr'
          obtain ⟨V0, hV0⟩ : ∃ V0, (W.alloc (.cells #[.int .i64 x.1, .int .i64 x.2.1, .int .i64 x.2.2] 30)).putObj L (.loop r') = V0 := ⟨_, rfl⟩
          have hX0 : Ex (fun i => i = L) W V0 := by rw [← hV0]; exact ((Ex.refl (fun i => i = L) W).alloc _).put L _ (.inr rfl)
          have hz0 : V0.heap.size = W.heap.size + 1 := by rw [← hV0, World.putObj_size, World.size_alloc]
          have hbx : V0.heap[W.heap.size]? = some (.cells #[.int .i64 x.1, .int .i64 x.2.1, .int .i64 x.2.2] 30 (0, 0)) := by
            rw [← hV0, World.putObj_heap_other (by have := lt_blk hD.l; omega)]; exact heap_alloc_new _ _
          have hb1 : V0.heap[w.heap.size]? = _ := (hX0.block _ (lt_blk hD.b1) hD.ne.2.1).trans hD.b1
          have hO1 : OwnL V0 (L + 1) A1 n1 c1 (putL [] (sel true ps)) := hD.o1.ex hX0 (fun b hb e => by have := (hD.o1.ltN b hb).1; omega)
          have HP := Lib.hid (append_c x A1 n1 c1 (L + 1) _ V0 hO1 hD.p1 hpx hwx (by omega) (by have := sel_len true ps; have := hD.o1.1; omega))
          have HSt := Lib.hid (fun (V4 : World) (A' : Option Addr) (n' c' : Nat) (hO : OwnL V4 (L + 1) A' n' c' (addL (putL [] (sel true ps)) x)) (hG : V0.grownBy V4 (ob A1)) (hor : ob A' = ob A1 ∨ ∀ b, ob A' = some b → V0.heap.size ≤ b) =>
            hD.step (by omega) (o := .cells #[.int .i64 x.1, .int .i64 x.2.1, .int .i64 x.2.2] 30) (r' := r') (V4 := V4) hO (by rw [hV0]; exact hG) (by rw [hV0]; exact hor) (poss_add hD.p1 hpx))
          have hltB := lt_blk hb1
          have hA1b : ∀ k, ob A1 = some k → L + 1 ≤ k := fun k hk => (hD.o1.ltN k hk).1
          have hLB1 := hD.lt.2.2.1
          have cb := (cell_one hb1).1
          have cx := And.intro (cell_of_row _ _ 0 _ _ _ hbx) (And.intro (cell_of_row _ _ 1 _ _ _ hbx) (cell_of_row _ _ 2 _ _ _ hbx))
          simp only [List.getElem?_toArray, List.getElem?_cons_zero, List.getElem?_cons_succ] at cx
          obtain ⟨cx0, cx1, cx2⟩ := cx
          have HB1 := Lib.hid hb1
          rw [hV0]
          clear hV0 hX0 hbx hD hO1 hb1
          unfold ltV at HP
          gi_wp2_with (refine ⟨trivial, (fun h => absurd h (by decide)), ?_⟩; gi_at_call 62; refine (CallsIn.inRound L (callsIn_wide.2 HP.out)).mono ?_; rintro e V4 ⟨A', n', c', rfl, hO4, hG4, hor4⟩; have hb4 : V4.heap[w.heap.size]? = _ := (hG4.block w.heap.size hltB (fun e => by have := hA1b w.heap.size e.symm; omega)).trans HB1.out; have c4 := (cell_one hb4).1; have f4 := (cell_one hb4).2)
          obtain ⟨g1, g2, g3, g4⟩ := HSt.out V4 A' n' c' hO4 hG4 hor4
          exact ⟨g1, _, ⟨A', n', c', A2, n2, c2, by rw [sel_hit true ps x, show false = !true from rfl, sel_miss true ps x]; exact g2, rfl⟩, g3, g4⟩
    have h0 : JV (L + 1) L D w.heap.size (w.heap.size + 1) r [] (XV L D w.heap.size (w.heap.size + 1) none none) W1 :=
      ⟨none, 0, 0, none, 0, 0, ⟨⟨by omega, by omega, by omega, by omega⟩, ⟨by omega, by omega, by omega, by omega, by omega, by omega⟩, hL1, hD1, (hE21.block (by omega)).trans hbt, (hE21.block (by omega)).trans hbl, OwnL.nil _ _, OwnL.nil _ _, apart_none _, by simp [sel, putL], by simp [sel, putL]⟩, rfl⟩
    have hxv : ∀ i, XV L D w.heap.size (w.heap.size + 1) none none i → i = L ∨ i = D ∨ i = w.heap.size ∨ i = w.heap.size + 1 := fun i hi => by
      rcases hi with h | h | h | h | h | h
      · exact .inl h
      · exact .inr (.inl h)
      · exact .inr (.inr (.inl h))
      · exact .inr (.inr (.inr h))
      · cases h
      · cases h
    have hC1 := spieces1_c hJ rfl W1 (w.heap.size + 1 + 1) (w.heap.size + 1 + 1 + 1) A n c l As ns cs s ((hA.e hEw).e hE21) ((hS.e hEw).e hE21) HAN.out.1 HAN.out.2 HP.out.1 HP.out.2 HCan.out ((hE21.block (by omega)).trans hba) ((hE21.block (by omega)).trans hbc) HCnt.out hns _ h0
      (fun h => by rcases hxv _ h with h | h | h | h <;> omega) (fun h => by rcases hxv _ h with h | h | h | h <;> omega)
    rw [hLd]
    refine (show Calls Tryz.prog 129 (#[.func (.yield L) #[] #[]] ++ #[ptr (w.heap.size + 1 + 1), ptr (w.heap.size + 1 + 1 + 1)]) W1 _ from hC1).mono ?_
    rintro e W' ⟨hv, ps, us, X', hPt, ⟨⟨A1, n1, c1, A2, n2, c2, hD, rfl⟩, rfl, _⟩ | ⟨hf, _⟩, hX, _⟩
    · have hpos : ∀ f, ∀ x ∈ sel f ps, 0 ≤ x.2.2 := fun f x hx => by
        simp only [sel, List.mem_map, List.mem_filter] at hx
        obtain ⟨p, ⟨hp, _⟩, rfl⟩ := hx
        have := hPt.pos p hp; omega
      have e1 : putL [] (sel true ps) = glue (inU s (U l)) := by rw [putN_eq (hpos true), hPt.ins]
      have e2 : putL [] (sel false ps) = glue (outU s (U l)) := by rw [putN_eq (hpos false), hPt.out]
      rw [e1, e2] at hD
      refine ⟨hv, .inl ⟨hD.l, A1, n1, c1, A2, n2, c2, hD.b1, hD.b2, by rw [hDd]; exact hD.d, hD.o1.rebase (by omega), hD.o2.rebase (by omega), hD.ap, hD.p1, hD.p2, ?_⟩⟩
      refine (Ex.of_e (X := fun _ => False) (hEw.trans hE21)).trans hX (fun _ _ x => x.elim) (fun i hi x => ?_)
      rcases hxv i x with h | h | h | h <;> omega
    · exact hf.elim
  case done =>
    rintro W' o ⟨A1, n1, c1, A2, n2, c2, hb1, hb2, hd, hO1, hO2, hap, hp1, hp2, hE⟩ hlt
    have vX : Ex (fun i => i = w2.heap.size + 1) W' (W'.putObj (w2.heap.size + 1) o) := (Ex.refl (fun i => i = w2.heap.size + 1) W').put _ _ (.inr rfl)
    have v1 : (W'.putObj (w2.heap.size + 1) o).heap[w.heap.size]? = _ := (World.putObj_heap_other (by omega)).trans hb1
    have v2 : (W'.putObj (w2.heap.size + 1) o).heap[w.heap.size + 1]? = _ := (World.putObj_heap_other (by omega)).trans hb2
    have vD : (W'.putObj (w2.heap.size + 1) o).heap[w2.heap.size]? = _ := (World.putObj_heap_other (by omega)).trans hd
    have vO1 : OwnL (W'.putObj (w2.heap.size + 1) o) (w2.heap.size + 2) A1 n1 c1 _ := hO1.ex vX (fun b hb e => by have := (hO1.ltN b hb).1; omega)
    have vO2 : OwnL (W'.putObj (w2.heap.size + 1) o) (w2.heap.size + 2) A2 n2 c2 _ := hO2.ex vX (fun b hb e => by have := (hO2.ltN b hb).1; omega)
    have vE : Ex (fun _ => False) w (W'.putObj (w2.heap.size + 1) o) := hE.put _ _ (.inl (by omega))
    obtain ⟨V, hV⟩ : ∃ V, W'.putObj (w2.heap.size + 1) o = V := ⟨_, rfl⟩
    obtain ⟨D, hDd⟩ : ∃ D, w2.heap.size = D := ⟨_, rfl⟩
    have hDg : w.heap.size + 1 < D := by omega
    rw [hV] at v1 v2 vD vO1 vO2 vE ⊢
    rw [hDd] at vD vO1 vO2 ⊢
    obtain ⟨q1, f1⟩ := cell_one v1
    obtain ⟨q2, f2⟩ := cell_one v2
    clear hV hDd hlt hz2 hbt hbl hba hbc hb1 hb2 hd hO1 hO2 hE vX
    gi_wp2
    gi_region
    all_goals gi_wp2
    obtain ⟨V5, hV5⟩ : ∃ V5, ((V.setCell ⟨w.heap.size, 0, none⟩ (.slice A1 n1 c1)).setCell ⟨w.heap.size + 1, 0, none⟩ (.slice A2 n2 c2)).drew = V5 := ⟨_, rfl⟩
    have x5 : Ex (fun i => i = w.heap.size ∨ i = w.heap.size + 1) V V5 := by
      rw [← hV5]
      exact (((Ex.refl (fun i => i = w.heap.size ∨ i = w.heap.size + 1) V).setCell ⟨w.heap.size, 0, none⟩ (.inr (.inl rfl)) _).setCell ⟨w.heap.size + 1, 0, none⟩ (.inr (.inr rfl)) _).drew
    have s1 : V5.heap[w.heap.size]? = some (.cells #[.slice A1 n1 c1] 41 (0, 0)) := by
      rw [← hV5]
      exact (Below.heap_setCell _ _ _ _ (by show w.heap.size ≠ w.heap.size + 1; omega)).trans (heap_setCell_same _ _ 0 _ _ _ v1)
    have s2 : V5.heap[w.heap.size + 1]? = some (.cells #[.slice A2 n2 c2] 41 (0, 0)) := by
      rw [← hV5]
      exact heap_setCell_same _ _ 0 _ _ (.slice A2 n2 c2) ((Below.heap_setCell _ _ _ _ (by show w.heap.size + 1 ≠ w.heap.size; omega)).trans v2)
    have sD : V5.heap[D]? = some (.deferred (some [])) := (x5.block D (lt_blk vD) (by omega)).trans vD
    rw [hV5]
    clear hV5
    refine ⟨by simp, .inl ⟨_, _, rfl, run_takeDeferred sD, ?_⟩⟩
    have x6 : Ex (fun i => i = w.heap.size ∨ i = w.heap.size + 1 ∨ i = D) V (V5.putObj D (.deferred none)) := (x5.mono (Z := fun i => i = w.heap.size ∨ i = w.heap.size + 1 ∨ i = D) (fun _ _ x => x.elim .inl (fun x => .inr (.inl x)))).put _ _ (.inr (.inr (.inr rfl)))
    have r1 := (cell_one (show (V5.putObj D (.deferred none)).heap[w.heap.size]? = _ from (World.putObj_heap_other (by omega)).trans s1)).1
    have r2 := (cell_one (show (V5.putObj D (.deferred none)).heap[w.heap.size + 1]? = _ from (World.putObj_heap_other (by omega)).trans s2)).1
    refine ⟨_, results_cell2 rfl rfl rfl (loadVar_lots r1) (loadVar_lots r2), A1, n1, c1, A2, n2, c2, rfl, (vO1.ex x6 (fun b hb e => by have := (vO1.ltN b hb).1; omega)).rebase (by omega), (vO2.ex x6 (fun b hb e => by have := (vO2.ltN b hb).1; omega)).rebase (by omega), hap, hp1, hp2, ?_⟩
    exact vE.trans x6 (fun _ _ x => x) (fun i hi x => by omega)
end Go.Proofs.YtmeplpiamkaniaaGreat
namespace Go.Proofs.YtmeplpiamkaniaaGreat
set_option linter.unusedVariables false
set_option linter.unusedSimpArgs false
open Go.RowKit Go.Sort
theorem set_steps {l : List Lt} (hl : ∀ x ∈ l, possB x = true) (hs : l.Pairwise fun x y => ltOf cmpL y x = false) : ∀ k, k ≤ l.length → ∃ S, SetSt l k S ∧ S.length ≤ k
  | 0, _ => ⟨[], SetSt.start l, Nat.le_refl _⟩
  | k + 1, hk => by
    obtain ⟨S, h1, h2⟩ := set_steps hl hs k (by omega)
    have hx : l[k]? = some l[k] := List.getElem?_eq_getElem (by omega)
    have hpx := hl _ (List.getElem_mem (show k < l.length by omega))
    rcases snoc_cases S with rfl | ⟨T, p, rfl⟩
    · exact ⟨_, h1.first hx hpx, by simp⟩
    · by_cases hc : p.1 = (l[k]).1 ∧ (l[k]).2.1 ≤ p.2.1 + p.2.2
      · exact ⟨_, h1.join hs hx hpx hc, by simp at h2 ⊢; omega⟩
      · exact ⟨_, h1.new hs hx hpx hc, by simp at h2 ⊢; omega⟩
theorem setS_facts {l : List Lt} (hl : ∀ x ∈ l, possB x = true) : Canon (setS l) ∧ (setS l).length ≤ l.length ∧ ∀ x ∈ setS l, possB x = true := by
  have hp : (l.mergeSort fun x y => !ltOf cmpL y x).Perm l := List.mergeSort_perm _ _
  have hs : (l.mergeSort fun x y => !ltOf cmpL y x).Pairwise fun x y => ltOf cmpL y x = false := by
    have := List.pairwise_mergeSort (le := fun x y => !ltOf cmpL y x) (fun a b c h1 h2 => by
      simp only [Bool.not_eq_true'] at *
      exact cmpL_swo.ntrans _ _ _ h2 h1) (fun a b => by
      simp only [Bool.or_eq_true, Bool.not_eq_true', Bool.eq_false_iff, ne_eq, cmpL_lt]
      omega) l
    exact this.imp fun h => by simpa using h
  obtain ⟨S, h1, h2⟩ := set_steps (fun x hx => hl x (hp.mem_iff.1 hx)) hs _ (Nat.le_refl _)
  have e := h1.done hp (Nat.le_refl _)
  rw [← e]
  exact ⟨h1.can, by rw [hp.length_eq] at h2; exact h2, h1.poss⟩
set_option maxHeartbeats 8000000 in
set_option maxRecDepth 100000 in
theorem lMeet_c (A : Option Addr) (n c : Nat) (l : List Lt) (A' : Option Addr) (n' c' : Nat) (l' : List Lt) (w : World) (h1 : LotsAt w A n c l) (h2 : LotsAt w A' n' c' l') (hn : n ≤ 300) (hn' : n' ≤ 300) :
    Calls Tryz.prog 22 #[.slice A n c, .slice A' n' c'] w (RetL w (lmeet l l')) := by
  have HV := Lib.hid (valid_c A n c l w h1)
  have HV2 := Lib.hid (fun W (hE : E w W) => valid_c A' n' c' l' W (h2.e hE))
  cases hv : validB l
  · rw [hv] at HV
    have HF := Lib.hid (show lmeet l l' = [] by rw [lmeet, hv]; rfl)
    clear hv
    go_enter Tryz.func22, Tryz.ntmps22
    go_wp2_with fail
    refine HV.out.mono ?_
    rintro e w2 ⟨rfl, hE2⟩
    go_wp2_with fail
    go_ret
    exact RetL.mk_ HF.out (OwnL.nil _ _) hE2
  · rw [hv] at HV
    cases hv2 : validB l'
    · rw [hv2] at HV2
      have HF := Lib.hid (show lmeet l l' = [] by rw [lmeet, hv, hv2]; rfl)
      clear hv hv2
      go_enter Tryz.func22, Tryz.ntmps22
      go_wp2_with fail
      refine HV.out.mono ?_
      rintro e w2 ⟨rfl, hE2⟩
      go_wp2_with fail
      refine (HV2.out _ hE2).mono ?_
      rintro e w3 ⟨rfl, hE3⟩
      go_wp2_with fail
      go_ret
      exact RetL.mk_ HF.out (OwnL.nil _ _) (hE2.trans hE3)
    · rw [hv2] at HV2
      obtain ⟨v1, v2⟩ := validB_iff.1 hv
      obtain ⟨u1, u2⟩ := validB_iff.1 hv2
      have hl1 := h1.len
      have hl2 := h2.len
      obtain ⟨k1, k2, k3⟩ := setS_facts v2
      obtain ⟨m1, m2, m3⟩ := setS_facts u2
      have HF := Lib.hid (show lmeet l l' = glue (inU (setS l') (U (setS l))) by rw [lmeet, hv, hv2, inU_congr (fun u => mem_setS)]; rfl)
      have HS1 := Lib.hid (fun W (hE : E w W) => spSet_c A n c l W (h1.e hE) v2 (by omega))
      have HS2 := Lib.hid (fun W (hE : E w W) => spSet_c A' n' c' l' W (h2.e hE) u2 (by omega))
      have HM := Lib.hid (And.intro k1 (And.intro k3 (And.intro m1 m3)))
      have HPl := Lib.hid v2
      have hkl : (setS l).length ≤ 300 := by omega
      have hml : (setS l').length ≤ 300 := by omega
      have HKL := Lib.hid (And.intro hkl hml)
      clear hv hv2 v1 v2 u1 u2 k1 k2 k3 m1 m2 m3 hl1 hl2 hkl hml
      go_enter Tryz.func22, Tryz.ntmps22
      go_wp2_with fail
      refine HV.out.mono ?_
      rintro e w2 ⟨rfl, hE2⟩
      go_wp2_with fail
      refine (HV2.out _ hE2).mono ?_
      rintro e w3 ⟨rfl, hE3⟩
      have hE23 := hE2.trans hE3
      go_wp2_with fail
      refine (HS1.out _ hE23).mono ?_
      rintro e w4 ⟨A4, n4, c4, rfl, hO4, hE4⟩
      have hE24 := hE23.trans hE4
      go_wp2_with fail
      refine (HS2.out _ hE24).mono ?_
      rintro e w5 ⟨A5, n5, c5, rfl, hO5, hE5⟩
      have hE25 := hE24.trans hE5
      have q5 : n5 ≤ 300 := by have := hO5.1; have := HKL.out.2; omega
      have q4 : n4 ≤ 300 := by have := hO4.1; have := HKL.out.1; omega
      have HD := Lib.hid (spDivide_c w5 A4 n4 c4 (setS l) A5 n5 c5 (setS l') (hO4.reads.e hE5) hO5.reads HM.out.2.1 HM.out.2.2.2 HM.out.2.2.1 (Nat.le_trans (Nat.mul_le_mul q4 (show 2 * n5 + 1 ≤ 601 by omega)) (by omega)) (by omega))
      have hle := hE25.le
      go_wp2_with fail
      refine HD.out.mono ?_
      rintro e w6 ⟨A6, n6, c6, A7, n7, c7, rfl, hOa, hOb, _, _, _, hX⟩
      have hE6 := hE25.trans (hX.e (fun i hi => hi.elim))
      go_wp2_with fail
      go_ret
      exact RetL.mk_ HF.out (hOa.rebase hle) hE6
end Go.Proofs.YtmeplpiamkaniaaGreat
namespace Go.Proofs.YtmeplpiamkaniaaGreat
set_option linter.unusedVariables false
set_option linter.unusedSimpArgs false
def addG (fs : List Fl) (G : Nat → List Lt) (L : List Lt) (q : Nat) : List Lt := G q ++ L.filter fun y => posF fs y.1 == some q
theorem addG_nil (fs : List Fl) (G : Nat → List Lt) : addG fs G [] = G := by funext q; simp [addG]
theorem addG_snoc (fs : List Fl) (G : Nat → List Lt) (L : List Lt) (y : Lt) {p : Nat} (hp : posF fs y.1 = some p) (q : Nat) : addG fs G (L ++ [y]) q = if q = p then addG fs G L q ++ [y] else addG fs G L q := by
  unfold addG
  rw [List.filter_append, ← List.append_assoc]
  by_cases e : q = p
  · subst e; rw [if_pos rfl]; simp [hp]
  · rw [if_neg e]
    have : ¬ p = q := fun h => e h.symm
    simp [hp, this]
def wholeF (fs : List Fl) (j : Int) : Lt := (j, 0, ((getF fs j).map Fl.n).getD 0)
theorem whole_eq {fs : List Fl} {j : Int} {g : Fl} (h : getF fs j = some g) : wholeF fs j = (j, 0, g.n) := by rw [wholeF, h]; rfl
theorem whole_has {fs : List Fl} (hg : GOk fs) {j : Int} {g : Fl} (h : getF fs j = some g) : hasF fs (wholeF fs j) = true := by
  rw [whole_eq h]
  obtain ⟨_, o1, _, o3, o4, _⟩ := okF_iff.1 (hg.ok g (getF_some h).1)
  have hi := (getF_some h).2
  refine hasF_iff.2 ⟨possB_iff.2 ⟨?_, ?_, ?_, ?_, ?_⟩, g, h, ?_⟩ <;> simp only <;> omega
def stepL (fs : List Fl) (f : Fl) (l : List Lt) : List Lt := (setS l).flatMap (srcF fs) ++ f.made.map (wholeF fs)
structure AncSt (fs : List Fl) (ord : List Nat) (x : Lt) (m : Nat) (G : Nat → List Lt) (ids : List Int) : Prop where
  own : ∀ p y, y ∈ G p → hasF fs y = true ∧ posF fs y.1 = some p
  snd : ∀ p u, u ∈ U (G p) → AncU fs x u
  start : ∃ p, posF fs x.1 = some p ∧ x ∈ G p
  clo : ∀ k p f, m ≤ k → ord[k]? = some p → fs[p]? = some f → G p ≠ [] → ∀ y ∈ stepL fs f (G p), ∀ q, posF fs y.1 = some q → y ∈ G q
  nd : ids.Nodup
  mem : ∀ i, i ∈ ids ↔ ∃ k p f, m ≤ k ∧ ord[k]? = some p ∧ fs[p]? = some f ∧ f.id = i ∧ G p ≠ []
section
variable {fs : List Fl} {ord : List Nat} {x : Lt} {m : Nat} {G : Nat → List Lt} {ids : List Int}
theorem AncSt.begin (hx : hasF fs x = true) {p : Nat} (hp : posF fs x.1 = some p) : AncSt fs ord x ord.length (fun q => if q = p then [x] else []) [] := by
  refine ⟨fun q y hy => ?_, fun q u hu => ?_, ⟨p, hp, by simp⟩, fun k q f hk h => ?_, List.nodup_nil, fun i => ⟨fun h => (by cases h), ?_⟩⟩
  · by_cases e : q = p
    · subst e; simp at hy; subst hy; exact ⟨hx, hp⟩
    · simp [e] at hy
  · by_cases e : q = p
    · subst e
      simp only [if_true, U_one] at hu
      exact .base hu
    · simp [e, U_nil] at hu
  · have := (List.getElem?_eq_some_iff.1 h).1; omega
  · rintro ⟨k, q, f, hk, h, _⟩
    have := (List.getElem?_eq_some_iff.1 h).1; omega
theorem pos_of_get {fs : List Fl} {i : Int} {f : Fl} (h : getF fs i = some f) : ∃ p, posF fs i = some p ∧ fs[p]? = some f := by
  obtain ⟨p, hp⟩ := pos_some h
  obtain ⟨g, h1, h2, _⟩ := posF_some hp
  rw [h] at h2
  injection h2 with h2
  subst h2
  exact ⟨p, hp, h1⟩
theorem step_facts (hg : GOk fs) {f : Fl} {p : Nat} (hf : fs[p]? = some f) {l : List Lt} (hne : l ≠ []) (hl : ∀ y ∈ l, hasF fs y = true ∧ posF fs y.1 = some p) :
    ∀ y ∈ stepL fs f l, hasF fs y = true ∧ y.1 ∈ refsF f ∧ ∀ u ∈ ul y, (∃ v ∈ U l, srcU fs v = some u) ∨ (∃ v ∈ U l, ∃ j g, getF fs v.1 = some f ∧ j ∈ f.made ∧ getF fs j = some g ∧ u ∈ ul (j, 0, g.n)) := by
  have hid : ∀ y ∈ l, y.1 = f.id := fun y hy => by
    obtain ⟨g, h1, _, h3⟩ := posF_some (hl y hy).2
    rw [hf] at h1
    injection h1 with h1
    subst h1
    exact h3.symm
  have hgf : getF fs f.id = some f := (hg.ids.get hf).2
  have hposs : ∀ y ∈ l, possB y = true := fun y hy => (hasF_iff.1 (hl y hy).1).1
  intro y hy
  rcases List.mem_append.1 hy with hy | hy
  · obtain ⟨s, hs, hy⟩ := List.mem_flatMap.1 hy
    have hs1 : s.1 = f.id := by
      have hp := (setS_facts hposs).1.pos s hs
      have hu : (s.1, s.2.1) ∈ U (setS l) := mem_U.2 ⟨s, hs, mem_ul.2 ⟨rfl, by simp only; omega, by simp only; omega⟩⟩
      obtain ⟨z, hz, hu⟩ := mem_U.1 (mem_setS.1 hu)
      exact (mem_ul.1 hu).1.trans (hid z hz)
    refine ⟨srcF_has hg y hy, srcF_refs hg (hs1 ▸ hgf) y hy, fun u hu => .inl ?_⟩
    have hm : u ∈ U (srcF fs s) := mem_U.2 ⟨y, hy, hu⟩
    rw [U_srcF] at hm
    obtain ⟨v, hv, hvu⟩ := List.mem_filterMap.1 hm
    exact ⟨v, mem_setS.1 (mem_U.2 ⟨s, hs, hv⟩), hvu⟩
  · obtain ⟨j, hj, rfl⟩ := List.mem_map.1 hy
    obtain ⟨g, hgj⟩ := hg.refs (List.mem_of_getElem? hf) (List.mem_append_right _ hj)
    refine ⟨whole_has hg hgj, List.mem_append_right _ hj, fun u hu => .inr ?_⟩
    obtain ⟨z, hz⟩ := List.exists_mem_of_ne_nil l hne
    obtain ⟨_, _, _, _, _, h5, _⟩ := has_get (hl z hz).1
    refine ⟨(z.1, z.2.1), mem_U.2 ⟨z, hz, mem_ul.2 ⟨rfl, by simp only; omega, by simp only; omega⟩⟩, j, g, ?_, hj, hgj, ?_⟩
    · simp only; rw [hid z hz]; exact hgf
    · rw [whole_eq hgj] at hu; exact hu
theorem mem_addG {L : List Lt} {q : Nat} {y : Lt} : y ∈ addG fs G L q ↔ y ∈ G q ∨ (y ∈ L ∧ posF fs y.1 = some q) := by
  rw [addG, List.mem_append, List.mem_filter]; simp
theorem topo_ahead (hT : Topo fs ord) {p : Nat} {f : Fl} (hm : ord[m]? = some p) (hf : fs[p]? = some f) {j : Int} (hj : j ∈ refsF f) {q : Nat} (hq : posF fs j = some q) {k : Nat} (hk : m ≤ k) (h : ord[k]? = some q) : False := by
  obtain ⟨q', h1, h2⟩ := hT.topo m p f hm hf j hj
  rw [hq] at h1
  injection h1 with h1
  subst h1
  obtain ⟨k', hk'⟩ := List.getElem?_of_mem h2
  rw [List.getElem?_take] at hk'
  split at hk'
  · rename_i hlt
    have e1 := (List.getElem?_eq_some_iff.1 hk').2
    have e2 := (List.getElem?_eq_some_iff.1 h).2
    have := (List.getElem_inj hT.nd).1 (e1.trans e2.symm)
    omega
  · cases hk'
theorem AncSt.skip (h : AncSt fs ord x (m + 1) G ids) {p : Nat} (hm : ord[m]? = some p) (h0 : G p = []) : AncSt fs ord x m G ids := by
  refine ⟨h.own, h.snd, h.start, fun k q f hk hq hf hne => ?_, h.nd, fun i => ?_⟩
  · rcases Nat.eq_or_lt_of_le hk with e | hk
    · subst e
      rw [hm] at hq
      injection hq with hq
      subst hq
      exact absurd h0 hne
    · exact h.clo k q f hk hq hf hne
  · rw [h.mem]
    constructor
    · rintro ⟨k, q, f, hk, r⟩; exact ⟨k, q, f, by omega, r⟩
    · rintro ⟨k, q, f, hk, hq, hf, hi, hne⟩
      rcases Nat.eq_or_lt_of_le hk with e | hk
      · subst e
        rw [hm] at hq
        injection hq with hq
        subst hq
        exact absurd h0 hne
      · exact ⟨k, q, f, hk, hq, hf, hi, hne⟩
theorem AncSt.step (h : AncSt fs ord x (m + 1) G ids) (hg : GOk fs) (hT : Topo fs ord) {p : Nat} {f : Fl} (hm : ord[m]? = some p) (hf : fs[p]? = some f) (hne : G p ≠ []) :
    AncSt fs ord x m (addG fs G (stepL fs f (G p))) (ids ++ [f.id]) := by
  have hgf : getF fs f.id = some f := (hg.ids.get hf).2
  have hst := step_facts hg hf hne (h.own p)
  have hnew : ∀ k q, m ≤ k → ord[k]? = some q → addG fs G (stepL fs f (G p)) q = G q := fun k q hk hq => by
    rw [addG, List.filter_eq_nil_iff.2, List.append_nil]
    intro y hy e
    exact topo_ahead hT hm hf (hst y hy).2.1 (by simpa using e) hk hq
  refine ⟨fun q y hy => ?_, fun q u hu => ?_, ?_, fun k q f' hk hq hf' hq0 y hy q' hq' => ?_, ?_, fun i => ?_⟩
  · rcases mem_addG.1 hy with hy | ⟨hy, hq⟩
    · exact h.own q y hy
    · exact ⟨(hst y hy).1, hq⟩
  · obtain ⟨y, hy, hu⟩ := mem_U.1 hu
    rcases mem_addG.1 hy with hy | ⟨hy, hq⟩
    · exact h.snd q u (mem_U.2 ⟨y, hy, hu⟩)
    · rcases (hst y hy).2.2 u hu with ⟨v, hv, hs⟩ | ⟨v, hv, j, g, h1, h2, h3, h4⟩
      · exact .src (h.snd p v hv) hs
      · exact .made (h.snd p v hv) h1 h2 h3 h4
  · obtain ⟨q, h1, h2⟩ := h.start
    exact ⟨q, h1, mem_addG.2 (.inl h2)⟩
  · rw [hnew k q hk hq] at hy hq0
    rcases Nat.eq_or_lt_of_le hk with e | hk
    · subst e
      rw [hm] at hq
      injection hq with hq
      subst hq
      rw [hf] at hf'
      injection hf' with hf'
      subst hf'
      exact mem_addG.2 (.inr ⟨hy, hq'⟩)
    · exact mem_addG.2 (.inl (h.clo k q f' hk hq hf' hq0 y hy q' hq'))
  · refine List.nodup_append.2 ⟨h.nd, by simp, fun a ha b hb => ?_⟩
    rw [List.mem_singleton] at hb
    subst hb
    rintro rfl
    obtain ⟨k, q, f', hk, hq, hf', hi, _⟩ := (h.mem _).1 ha
    have := hg.ids.inj hf' hf hi
    subst this
    have e1 := (List.getElem?_eq_some_iff.1 hq).2
    have e2 := (List.getElem?_eq_some_iff.1 hm).2
    have := (List.getElem_inj hT.nd).1 (e1.trans e2.symm)
    omega
  · rw [List.mem_append, h.mem, List.mem_singleton]
    constructor
    · rintro (⟨k, q, f', hk, hq, hf', hi, hq0⟩ | rfl)
      · exact ⟨k, q, f', by omega, hq, hf', hi, by rw [hnew k q (by omega) hq]; exact hq0⟩
      · exact ⟨m, p, f, Nat.le_refl _, hm, hf, rfl, by rw [hnew m p (Nat.le_refl _) hm]; exact hne⟩
    · rintro ⟨k, q, f', hk, hq, hf', hi, hq0⟩
      rw [hnew k q hk hq] at hq0
      rcases Nat.eq_or_lt_of_le hk with e | hk
      · subst e
        rw [hm] at hq
        injection hq with hq
        subst hq
        rw [hf] at hf'
        injection hf' with hf'
        subst hf'
        exact .inr hi.symm
      · exact .inl ⟨k, q, f', hk, hq, hf', hi, hq0⟩
theorem AncSt.done (h : AncSt fs ord x 0 G ids) (hg : GOk fs) (hT : Topo fs ord) : ∀ i, i ∈ ids ↔ AncI fs x i := by
  have hin : ∀ p f, fs[p]? = some f → ∃ k, ord[k]? = some p := fun p f hf =>
    List.getElem?_of_mem (nodup_all hT.nd hT.lt hT.ln p (List.getElem?_eq_some_iff.1 hf).1)
  have hall : ∀ u, AncU fs x u → ∃ p, posF fs u.1 = some p ∧ u ∈ U (G p) := by
    intro u hu
    induction hu with
    | base hu =>
      obtain ⟨p, h1, h2⟩ := h.start
      exact ⟨p, by rw [(mem_ul.1 hu).1]; exact h1, mem_U.2 ⟨x, h2, hu⟩⟩
    | @src u v _ hs ih =>
      obtain ⟨p, h1, h2⟩ := ih
      obtain ⟨f, h3, h4, _⟩ := posF_some h1
      obtain ⟨k, hk⟩ := hin p f h3
      obtain ⟨⟨g, hgv, _⟩, f', h5, h6, _⟩ := hg.src hs
      obtain ⟨q, hq, _⟩ := pos_of_get hgv
      refine ⟨q, hq, ?_⟩
      have hne : G p ≠ [] := fun e => by rw [e] at h2; cases h2
      obtain ⟨s, hs1, hs2⟩ := mem_U.1 (mem_setS.2 h2)
      have hv : v ∈ U (srcF fs s) := by rw [U_srcF]; exact List.mem_filterMap.2 ⟨u, hs2, hs⟩
      obtain ⟨y, hy, hvy⟩ := mem_U.1 hv
      refine mem_U.2 ⟨y, h.clo k p f (Nat.zero_le _) hk h3 hne y (List.mem_append_left _ (List.mem_flatMap.2 ⟨s, hs1, hy⟩)) q ?_, hvy⟩
      rw [← (mem_ul.1 hvy).1]; exact hq
    | @made u v f g j _ hf hj hgj hv ih =>
      obtain ⟨p, h1, h2⟩ := ih
      obtain ⟨f', h3, h4, _⟩ := posF_some h1
      rw [hf] at h4
      injection h4 with h4
      subst h4
      obtain ⟨k, hk⟩ := hin p f h3
      obtain ⟨q, hq, _⟩ := pos_of_get hgj
      have hv1 : v.1 = j := (mem_ul.1 hv).1
      refine ⟨q, by rw [hv1]; exact hq, ?_⟩
      have hne : G p ≠ [] := fun e => by rw [e] at h2; cases h2
      refine mem_U.2 ⟨(j, 0, g.n), ?_, hv⟩
      rw [← whole_eq hgj]
      exact h.clo k p f (Nat.zero_le _) hk h3 hne _ (List.mem_append_right _ (List.mem_map.2 ⟨j, hj, rfl⟩)) q hq
  intro i
  rw [h.mem]
  constructor
  · rintro ⟨k, p, f, _, hk, hf, hi, hne⟩
    obtain ⟨y, hy⟩ := List.exists_mem_of_ne_nil _ hne
    obtain ⟨h1, h2⟩ := h.own p y hy
    obtain ⟨_, _, _, _, _, h5, _⟩ := has_get h1
    obtain ⟨g, h6, _, h7⟩ := posF_some h2
    rw [hf] at h6
    injection h6 with h6
    subst h6
    exact ⟨(y.1, y.2.1), h.snd p _ (mem_U.2 ⟨y, hy, mem_ul.2 ⟨rfl, by simp only; omega, by simp only; omega⟩⟩), by simp only; rw [← h7]; exact hi⟩
  · rintro ⟨u, hu, rfl⟩
    obtain ⟨p, h1, h2⟩ := hall u hu
    obtain ⟨f, h3, h4, h5⟩ := posF_some h1
    obtain ⟨k, hk⟩ := hin p f h3
    exact ⟨k, p, f, Nat.zero_le _, hk, h3, h5, fun e => by rw [e] at h2; cases h2⟩
end
theorem step_cnt {fs : List Fl} (hg : GOk fs) {f : Fl} {p : Nat} (hf : fs[p]? = some f) {l : List Lt} (hl : ∀ y ∈ l, hasF fs y = true ∧ posF fs y.1 = some p) : (stepL fs f l).length ≤ cntU fs + f.made.length := by
  have hposs : ∀ y ∈ l, possB y = true := fun y hy => (hasF_iff.1 (hl y hy).1).1
  have hc := (setS_facts hposs).1
  have key : ∀ s : List Lt, (s.flatMap (srcF fs)).length ≤ (U s).length := by
    intro s
    induction s with
    | nil => exact Nat.le_refl _
    | cons y s ih =>
      rw [List.flatMap_cons, U_cons, List.length_append, List.length_append]
      have h1 := len_units (l := srcF fs y) (glue_glued _).mem
      rw [U_srcF] at h1
      have h2 := List.length_filterMap_le (srcU fs) (ul y)
      omega
  rw [stepL, List.length_append, List.length_map]
  have h1 := key (setS l)
  have h2 := canon_cnt (fs := fs) hc (fun u hu => by
    obtain ⟨y, hy, hu⟩ := mem_U.1 (mem_setS.1 hu)
    exact hasF_units (hl y hy).1 u hu)
  omega
theorem AncU.from_ {fs : List Fl} {x y : Lt} (h : ∀ u ∈ ul y, AncU fs x u) {u : Un} (hu : AncU fs y u) : AncU fs x u := by
  induction hu with
  | base hu => exact h _ hu
  | src _ hs ih => exact .src ih hs
  | made _ h1 h2 h3 h4 ih => exact .made ih h1 h2 h3 h4
end Go.Proofs.YtmeplpiamkaniaaGreat
