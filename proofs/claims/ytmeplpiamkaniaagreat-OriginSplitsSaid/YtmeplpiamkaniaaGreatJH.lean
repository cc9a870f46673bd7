/- Lemmas of the claim, joined: GB GC GD QO GE GG GHm GHs So GSo GF. No condition. -/
import Derived.Test.YtmeplpiamkaniaaGreatJF
import Derived.Test.YtmeplpiamkaniaaGreatJC
import Derived.Test.YtmeplpiamkaniaaGreatJG
import Derived.Deep.LoopGhost
import Derived.Test.YtmeplpiamkaniaaGreatJE
import Derived.Test.YtmeplpiamkaniaaGreatJA
import Derived.Test.YtmeplpiamkaniaaGreatJB
import Derived.Ground.SlgmProg
import Derived.Shelf.SortM.Plain
import Derived.Shelf.SortM.SortNone
import Derived.Test.YtmeplpiamkaniaaGreatProg
import Derived.Sort.OwnSortedInts
import Derived.Deep.AppendSrc
namespace Go.Proofs.YtmeplpiamkaniaaGreat
set_option linter.unusedVariables false
set_option linter.unusedSimpArgs false
open Go.RowKit Go.Shelf Go.Sort
set_option linter.unusedSimpArgs false in
theorem src1_c (Bs Bx : Nat) (A : Option Addr) (n c : Nat) (l : List Int) (a : Int) (i : Nat) (W : World) (hs : Nums .i64 W A n c l) (hB : W.cell? ⟨Bs, 0, none⟩ = some (.slice A n c)) (hx1 : W.cell? ⟨Bx, 1, none⟩ = some (.int .i64 a)) (hi : i < n) :
    Calls Tryz.prog 97 #[.int .i64 i, ptr Bs, ptr Bx] W fun e w' => e = .returned (.bool (decide (a < l.getD i 0))) ∧ ∃ q, w' = W.drewN q := by
  have hm := hs.n63
  obtain ⟨b, o, z, rfl, hb, hz, _, c0⟩ := hs.get hi
  have hiI : (i : Int) < (n : Int) := by omega
  rw [show l.getD i 0 = z by rw [List.getD_eq_getElem?_getD, hz]; rfl]
  have HF := Lib.hid (show decide (a < z) = decide (a < z) from rfl)
  unfold ptr
  go_enter Tryz.func97, Tryz.ntmps97
  go_upto_region 1 with fail
  (refine wp_region_quiet_lit (by kernel_rfl) (by kernel_rfl) ?_; (repeat (first | ((with_reducible refine wpQuiet_step (fun K hK => ?_)); go_simp; (with_reducible refine hK _ ?_); clear hK K) | ((with_reducible refine wpQuiet_off (by kernel_rfl) (fun K hK => ?_)); go_simp; (with_reducible refine hK _ ?_); clear hK K))); (with_reducible refine wpQuiet_nil ?_); intro _ hw'; obtain ⟨nq, hw''⟩ := hw'; subst hw'')
  go_wp2_with fail
  go_ret
  exact ⟨rfl, nq, rfl⟩
theorem srcSearch_c (Bs Bx : Nat) (A : Option Addr) (n c : Nat) (l : List Int) (x : Lt) (w : World) (hs : Nums .i64 w A n c l) (hn : n ≤ 1000000) (hB : w.heap[Bs]? = some (.cells #[.slice A n c] 22 (0, 0))) (hx : w.heap[Bx]? = some (.cells #[.int .i64 x.1, .int .i64 x.2.1, .int .i64 x.2.2] 30 (0, 0))) (hm : ∀ a b, a ≤ b → b < n → l.getD a 0 ≤ l.getD b 0) :
    Calls Tryz.prog 96 #[.int .i64 n, .func (.func 97) #[] #[ptr Bs, ptr Bx]] w fun e w' => ∃ i : Nat, e = .returned (.int .i64 i) ∧ i ≤ n ∧ (∀ j, j < n → (j < i ↔ l.getD j 0 ≤ x.2.1)) ∧ E w w' := by
  have hlen := hs.len
  have hm2 : ∀ a b, a ≤ b → b < n → decide (x.2.1 < l.getD a 0) = true → decide (x.2.1 < l.getD b 0) = true := fun a b hab hb h => by
    have := hm a b hab hb
    have h := of_decide_eq_true h
    exact decide_eq_true (by omega)
  have hS := Any.sort_Search Tryz.searchS 97 #[ptr Bs, ptr Bx] n (fun i => decide (x.2.1 < l.getD i 0)) w Tryz.call97 (by omega)
    (fun m os i hi => by
      have hE := E_grow w m os
      have hx' : (grow (w.drewN m) os).heap[Bx]? = _ := (hE.block (lt_blk hx)).trans hx
      refine (show Calls Tryz.prog 97 (#[.int .i64 i] ++ #[ptr Bs, ptr Bx]) _ _ from src1_c Bs Bx A n c l x.2.1 i _ (hs.e hE) (cell_one ((hE.block (lt_blk hB)).trans hB)).1 (cell_of_row _ _ 1 _ _ _ hx') hi).mono ?_
      rintro e w' ⟨rfl, q, rfl⟩
      exact ⟨rfl, q, #[], grow_none _⟩) hm2
  change Calls Tryz.prog 96 _ _ _ at hS
  refine hS.mono ?_
  rintro e w' ⟨rfl, q, os, rfl⟩
  refine ⟨_, rfl, ?_, fun j hj => ?_, E_grow w q os⟩
  · have := List.countP_le_length (p := fun i => !decide (x.2.1 < l.getD i 0)) (l := List.range n)
    rw [List.length_range] at this
    exact this
  · rw [count_mono hm2 j hj]
    simp
theorem starts_getD (l : List Lt) (i : Nat) (hi : i < l.length) : (startsF 0 l).getD i 0 = totL (l.take i) := by
  rw [List.getD_eq_getElem?_getD, starts_get 0 l i hi]; simp
set_option linter.unusedSimpArgs false in
set_option maxHeartbeats 2000000 in
set_option maxRecDepth 100000 in
theorem gsources_c (X : Nat → Prop) (g : Nat) (fs : List Fl) (x : Lt) (w : World) (h : GraphAt w X g fs) (hx : WfL x) (hh : hasF fs x = true) :
    Calls Tryz.prog 61 #[.pointer (some ⟨g, 0, none⟩), ltV x] w (RetL w (srcF fs x)) := by
  obtain ⟨p, hG⟩ := h
  obtain ⟨w1, hw1⟩ : ∃ w1, w.alloc (.cells #[.int .i64 x.1, .int .i64 x.2.1, .int .i64 x.2.2] 30) = w1 := ⟨_, rfl⟩
  have hE1 : E w w1 := by rw [← hw1]; exact (E.refl w).alloc _
  have hbx : w1.heap[w.heap.size]? = some (.cells #[.int .i64 x.1, .int .i64 x.2.1, .int .i64 x.2.2] 30 (0, 0)) := by rw [← hw1]; exact heap_alloc_new _ _
  obtain ⟨f, hgf, hfm, hfi, hx0, hx1, hx2⟩ := has_get hh
  obtain ⟨j, hp, hfj⟩ := pos_of_get hgf
  have hjn : j < fs.length := (List.getElem?_eq_some_iff.1 hfj).1
  have hG1 := hG.e hE1
  obtain ⟨b3, o3, f', s, t, hAe, hb3, hq, _, hcq, hfb⟩ := hG1.flows.get hjn
  rw [hfj] at hq
  injection hq with hq
  subst hq
  obtain ⟨b4, o4, st, rA, rn, rc, hSe, hb4, hst, hc4, hN4⟩ := hG1.rows.get hjn
  rw [List.getElem?_map, hfj] at hst
  injection hst with hst
  injection hSe with hSe
  injection hSe with hS1 hS2
  subst hS1 hS2
  have hst' : st = startsF 0 f.parts := hst.symm
  have hls := hfb.1.len
  have hrn : rn = s.2.1 := by rw [← hN4.len, hst', starts_len, hls]
  subst hrn
  have hn63 := hfb.1.n63
  have hfn63 := hG1.flows.n63
  have hok := hG.ok.ok f hfm
  obtain ⟨hvp, o1, o2, o3', o4', o5⟩ := okF_iff.1 hok
  have hpo : ∀ y ∈ f.parts, possB y = true := (validB_iff.1 hvp).2
  have hp46 : f.parts.length ≤ 4096 := (validB_iff.1 hvp).1
  have hlk := fun m => (hG1.mp.drewN m).look mapIT hx.1
  have hlk0 := hG1.mp.look mapIT hx.1
  rw [plc_some hp] at hlk hlk0
  simp only [Option.getD] at hlk hlk0
  obtain ⟨gc0, gc1, gc2, _, _⟩ := hG1.blk.cells
  rw [hAe] at gc0
  have HG1 := Lib.hid hG1
  have HE1 := Lib.hid hE1
  have HBX := Lib.hid hbx
  have hc0 := cell_of_row _ _ 0 _ _ _ hbx
  have hcn := fun k => cell_of_row _ _ k _ _ _ hbx
  have HGF := Lib.hid hgf
  have HH := Lib.hid hh
  have HN4 := Lib.hid hN4
  have HFB := Lib.hid hfb
  have HPO := Lib.hid hpo
  have HP46 := Lib.hid hp46
  have HLS := Lib.hid hls
  have HST := Lib.hid hst'
  have HOK := Lib.hid hG.ok
  have HX := Lib.hid (And.intro hx0 (And.intro hx1 (And.intro hx2 o4')))
  unfold FlCells at hcq
  obtain ⟨_, _, _, _, _, _, _, _, _, q9, _⟩ := hcq
  have hjI : (j : Int) < (fs.length : Int) := by omega
  simp only [Nat.zero_add] at hc4
  clear hG hG1 hE1 hbx hh hfm hfi hp hfj hfb hst hls hok hvp o1 o2 o3' o4' o5 hpo hp46 hx0 hx1 hx2 hst' hN4 hAe hgf
  generalize hnn : fs.length = nn at *
  unfold ltV
  go_enter Tryz.func61, Tryz.ntmps61
  go_upto_region 1 with fail
  try rw [hw1]
  clear hw1
  (refine wp_region_quiet_lit (by kernel_rfl) (by kernel_rfl) ?_; (repeat (first | ((with_reducible refine wpQuiet_step (fun K hK => ?_)); go_simp; (with_reducible refine hK _ ?_); clear hK K) | ((with_reducible refine wpQuiet_off (by kernel_rfl) (fun K hK => ?_)); go_simp; (with_reducible refine hK _ ?_); clear hK K))); (with_reducible refine wpQuiet_nil ?_); intro _ hw'; obtain ⟨nq, hw''⟩ := hw'; subst hw'')
  go_upto_region 2 with fail
  obtain ⟨wB, hwB⟩ : ∃ wB, (w1.drewN (nq + 1)).alloc (.cells #[.slice none 0 0] 22) = wB := ⟨_, rfl⟩
  have hEB : E w1 wB := by rw [← hwB]; exact ((E.refl w1).drewN _).alloc _
  have hBB : wB.heap[w1.heap.size]? = some (.cells #[.slice none 0 0] 22 (0, 0)) := by rw [← hwB]; exact heap_alloc_new (w1.drewN (nq + 1)) _
  obtain ⟨wC, hwC⟩ : ∃ wC, wB.setCell ⟨w1.heap.size, 0, none⟩ (.slice rA s.2.1 rc) = wC := ⟨_, rfl⟩
  have hEC : E w1 wC := by rw [← hwC]; exact hEB.setCell (p := ⟨w1.heap.size, 0, none⟩) (Nat.le_refl _) _
  have hBC : wC.heap[w1.heap.size]? = some (.cells #[.slice rA s.2.1 rc] 22 (0, 0)) := by rw [← hwC]; exact heap_setCell_same _ _ 0 _ _ _ hBB
  have hS := fun W (hE : E w1 W) => (show W.cell? ⟨g, 1, none⟩ = some (.slice (some ⟨p.gs, 0, none⟩) nn nn) ∧ W.cell? ⟨p.gs, j, none⟩ = some (.slice rA s.2.1 rc) ∧ W.cell? ⟨g, 0, none⟩ = some (.slice (some ⟨b3, o3, none⟩) nn p.cf) ∧ W.cell? ⟨b3, o3 + j * 11 + 9, none⟩ = some (.slice s.1 s.2.1 s.2.2) from
    ⟨(hE.cell (p := ⟨g, 1, none⟩) (World.block_lt_of_cell? _ _ gc1)).trans gc1, (hE.cell (p := ⟨p.gs, j, none⟩) hb4).trans hc4, (hE.cell (p := ⟨g, 0, none⟩) (World.block_lt_of_cell? _ _ gc0)).trans gc0, (hE.cell (p := ⟨b3, o3 + j * 11 + 9, none⟩) hb3).trans q9⟩)
  have hSB := hS _ hEB
  have hSC := hS _ hEC
  have hcB := (cell_one hBB).1
  have hfB := (cell_one hBB).2
  have HBC := Lib.hid hBC
  have HEC := Lib.hid hEC
  clear hS hEB hBB hBC hEC
  refine wp_region_held_drew (S := (fun w' => w'.cell? ⟨g, 1, none⟩ = some (.slice (some ⟨p.gs, 0, none⟩) nn nn) ∧ w'.cell? ⟨p.gs, j, none⟩ = some (.slice rA s.2.1 rc) ∧ w'.cell? ⟨g, 0, none⟩ = some (.slice (some ⟨b3, o3, none⟩) nn p.cf) ∧ w'.cell? ⟨b3, o3 + j * 11 + 9, none⟩ = some (.slice s.1 s.2.1 s.2.2))) (by kernel_rfl) ⟨gc1, hc4, gc0, q9⟩ (fun hHeld => ?_)
  (((refine wpAnyH_take (i := 0) (v := ?_) rfl (by kernel_rfl) (by kernel_rfl) (by kernel_rfl) (fun _ _ _ h => h) (Or.inl ⟨by kernel_rfl, ?_⟩) (by assumption) ?_); rotate_left 1; (focus (intro w hSw; (try dsimp only at hSw); go_simp; (try with_reducible rfl))); (try simp only [Act.put, sA, sB, sC])); ((refine wpAnyH_take (i := 1) (v := ?_) rfl (by kernel_rfl) (by kernel_rfl) (by kernel_rfl) (fun _ _ _ h => h) (Or.inl ⟨by kernel_rfl, ?_⟩) (by assumption) ?_); rotate_left 1; (focus (intro w hSw; (try dsimp only at hSw); go_simp; (try with_reducible rfl))); (try simp only [Act.put, sA, sB, sC])); ((refine wpAnyH_take (i := 2) (v := ?_) rfl (by kernel_rfl) (by kernel_rfl) (by kernel_rfl) (fun _ _ _ h => h) (Or.inl ⟨by kernel_rfl, ?_⟩) (by assumption) ?_); rotate_left 1; (focus (intro w hSw; (try dsimp only at hSw); go_simp; (try with_reducible rfl))); (try simp only [Act.put, sA, sB, sC])); ((refine wpAnyH_take (i := 3) (v := ?_) rfl (by kernel_rfl) (by kernel_rfl) (by kernel_rfl) (fun _ _ _ h => h) (Or.inl ⟨by kernel_rfl, ?_⟩) (by assumption) ?_); rotate_left 1; (focus (intro w hSw; (try dsimp only at hSw); go_simp; (try with_reducible rfl))); (try simp only [Act.put, sA, sB, sC])); ((refine wpAnyH_take (i := 4) (v := ?_) rfl (by kernel_rfl) (by kernel_rfl) (by kernel_rfl) (fun _ _ _ h => h) (Or.inl ⟨by kernel_rfl, ?_⟩) (by assumption) ?_); rotate_left 1; (focus (intro w hSw; (try dsimp only at hSw); go_simp; (try with_reducible rfl))); (try simp only [Act.put, sA, sB, sC])); ((refine wpAnyH_take (i := 5) (v := ?_) rfl (by kernel_rfl) (by kernel_rfl) (by kernel_rfl) (fun _ _ _ h => h) (Or.inl ⟨by kernel_rfl, ?_⟩) (by assumption) ?_); rotate_left 1; (focus (intro w hSw; (try dsimp only at hSw); go_simp; (try with_reducible rfl))); (try simp only [Act.put, sA, sB, sC])); ((refine wpAnyH_take (i := 6) (v := ?_) rfl (by kernel_rfl) (by kernel_rfl) (by kernel_rfl) (fun _ _ _ h => h) (Or.inl ⟨by kernel_rfl, ?_⟩) (by assumption) ?_); rotate_left 1; (focus (intro w hSw; (try dsimp only at hSw); go_simp; (try with_reducible rfl))); (try simp only [Act.put, sA, sB, sC])); ((refine wpAnyH_take (i := 7) (v := ?_) rfl (by kernel_rfl) (by kernel_rfl) (by kernel_rfl) (fun _ _ _ h => h) (Or.inl ⟨by kernel_rfl, ?_⟩) (by assumption) ?_); rotate_left 1; (focus (intro w hSw; (try dsimp only at hSw); go_simp; (try with_reducible rfl))); (try simp only [Act.put, sA, sB, sC])); ((refine wpAnyH_take (i := 8) (v := ?_) rfl (by kernel_rfl) (by kernel_rfl) (by kernel_rfl) (fun _ _ _ h => h) (Or.inl ⟨by kernel_rfl, ?_⟩) (by assumption) ?_); rotate_left 1; (focus (intro w hSw; (try dsimp only at hSw); go_simp; (try with_reducible rfl))); (try simp only [Act.put, sA, sB, sC])); ((refine wpAnyH_take (i := 9) (v := ?_) rfl (by kernel_rfl) (by kernel_rfl) (by kernel_rfl) (fun _ _ _ h => h) (Or.inl ⟨by kernel_rfl, ?_⟩) (by assumption) ?_); rotate_left 1; (focus (intro w hSw; (try dsimp only at hSw); go_simp; (try with_reducible rfl))); (try simp only [Act.put, sA, sB, sC])); ((refine wpAnyH_take (i := 10) (v := ?_) rfl (by kernel_rfl) (by kernel_rfl) (by kernel_rfl) (fun _ _ _ h => h) (Or.inl ⟨by kernel_rfl, ?_⟩) (by assumption) ?_); rotate_left 1; (focus (intro w hSw; (try dsimp only at hSw); go_simp; (try with_reducible rfl))); (try simp only [Act.put, sA, sB, sC])); ((refine wpAnyH_take (i := 11) (v := ?_) rfl (by kernel_rfl) (by kernel_rfl) (by kernel_rfl) (fun _ _ _ h => h) (Or.inl ⟨by kernel_rfl, ?_⟩) (by assumption) ?_); rotate_left 1; (focus (intro w hSw; (try dsimp only at hSw); go_simp; (try with_reducible rfl))); (try simp only [Act.put, sA, sB, sC])); ((refine wpAnyH_take (i := 12) (v := ?_) rfl (by kernel_rfl) (by kernel_rfl) (by kernel_rfl) (fun _ _ _ h => h) (Or.inl ⟨by kernel_rfl, ?_⟩) (by assumption) ?_); rotate_left 1; (focus (intro w hSw; (try dsimp only at hSw); go_simp; (try with_reducible rfl))); (try simp only [Act.put, sA, sB, sC])); ((refine wpAnyH_take (i := 13) (v := ?_) rfl (by kernel_rfl) (by kernel_rfl) (by kernel_rfl) (fun _ _ _ h => h) (Or.inl ⟨by kernel_rfl, ?_⟩) (by assumption) ?_); rotate_left 1; (focus (intro w hSw; (try dsimp only at hSw); go_simp; (try with_reducible rfl))); (try simp only [Act.put, sA, sB, sC])); ((refine wpAnyH_take (i := 14) (v := ?_) rfl (by kernel_rfl) (by kernel_rfl) (by kernel_rfl) (fun _ _ _ h => h) (Or.inl ⟨by kernel_rfl, ?_⟩) (by assumption) ?_); rotate_left 1; (focus (intro w hSw; (try dsimp only at hSw); go_simp; (try with_reducible rfl))); (try simp only [Act.put, sA, sB, sC])))
  (((refine wpAnyH_ready (rs := [15]) (by kernel_rfl) (by simp) ?_); (refine AllReadyH.cons rfl (fun K hK => ?_) AllReadyH.nil); (rw [if_pos (by kernel_rfl)]); go_simp))
  (try rw [hwB])
  refine hK _ _ hSB (fun hh => ?_)
  clear hK K hh
  (try simp only [Act.put, sA, sB, sC])
  (((refine wpAnyH_ready (rs := [16]) (by kernel_rfl) (by simp) ?_); (refine AllReadyH.cons rfl (fun K hK => ?_) AllReadyH.nil); (rw [if_pos (by kernel_rfl)]); go_simp))
  (try rw [hwC])
  refine hK _ _ hSC (fun hh => ?_)
  clear hK K hh
  (try simp only [Act.put, sA, sB, sC])
  (((refine wpAnyH_ready (rs := [17]) (by kernel_rfl) (by simp) ?_); (refine AllReadyH.cons rfl (fun K hK => ?_) AllReadyH.nil); (rw [if_pos (by kernel_rfl)]); go_simp))
  refine hK _ _ hSC (fun hh => ?_)
  clear hK K hh
  (try simp only [Act.put, sA, sB, sC])
  refine wpAnyH_done (by kernel_rfl) ?_ _
  go_simp
  clear hHeld hSB hSC hcB hfB hwB hwC wB gc0 gc1 gc2 hc4 q9 hc0 hcn hlk hlk0
  by_cases hn0 : f.parts = []
  · have h0 : s.2.1 = 0 := by rw [← HLS.out, hn0]; rfl
    have HR := Lib.hid (show srcF fs x = [] from srcF_new HGF.out hn0)
    have h0I : ((s.2.1 : Nat) : Int) = 0 := by omega
    clear hn0
    go_wp2_with fail
    go_ret
    refine ⟨none, 0, 0, rfl, ?_, HE1.out.trans HEC.out⟩
    rw [HR.out]; exact OwnL.nil _ _
  · have hs0 : 0 < s.2.1 := by rw [← HLS.out]; exact List.length_pos_iff.2 hn0
    have hNC := HN4.out.e HEC.out
    rw [HST.out] at hNC
    have hbxC : wC.heap[w.heap.size]? = some (.cells #[.int .i64 x.1, .int .i64 x.2.1, .int .i64 x.2.2] 30 (0, 0)) := (HEC.out.block (lt_blk HBX.out)).trans HBX.out
    have hge : ∀ y ∈ f.parts, 0 ≤ y.2.2 := fun y hy => by have := possB_iff.1 (HPO.out y hy); omega
    have hse := (srcSearch_c w1.heap.size w.heap.size rA s.2.1 rc (startsF 0 f.parts) x wC hNC (by have := HP46.out; have := HLS.out; omega) HBC.out hbxC (fun a b hab hb => by
      have hb' : b < f.parts.length := by rw [HLS.out]; exact hb
      rw [starts_getD _ _ (by omega), starts_getD _ _ hb']
      exact totL_mono hge hab)).mono (R' := fun e w' => ∃ k : Nat, e = .returned (.int .i64 ((k : Int) + 1)) ∧ k < s.2.1 ∧ totL (f.parts.take k) ≤ x.2.1 ∧ E wC w') (by
        rintro e w' ⟨i, rfl, hi, hiff, hE⟩
        have h0 : 0 < i := (hiff 0 hs0).2 (by rw [starts_getD _ _ (by rw [HLS.out]; exact hs0), List.take_zero]; exact HX.out.1)
        refine ⟨i - 1, by congr 2; omega, by omega, ?_, hE⟩
        have := (hiff (i - 1) (by omega)).1 (by omega)
        rwa [starts_getD _ _ (by rw [HLS.out]; omega)] at this)
    have HSE := Lib.hid hse
    unfold ptr at HSE
    have hc6 := (cell_one HBC.out).1
    have dn : ((s.2.1 : Int) == 0) = false := by simp; omega
    have HNC := Lib.hid hNC
    have HBXC := Lib.hid hbxC
    have HN0 := Lib.hid hn0
    have HGE := Lib.hid hge
    clear hse hNC hbxC hn0 hge
    go_upto_region 6 with (go_at_call 96; refine HSE.out.mono ?_; rintro e w3 ⟨k, rfl, hkn, hka, hE3⟩)
    obtain ⟨b5, o5, hs1, hsub⟩ := (HFB.out.1.e (HEC.out.trans hE3)).sub k (s.2.1 - k) (by omega) (by omega)
    obtain ⟨b6, o6, z6, hrA, hb6, hz6, hwz, d6⟩ := (HNC.out.e hE3).get hkn
    rw [starts_get 0 _ _ (by rw [HLS.out]; exact hkn), Int.zero_add] at hz6
    injection hz6 with hz6
    have hbx3 : w3.heap[w.heap.size]? = some (.cells #[.int .i64 x.1, .int .i64 x.2.1, .int .i64 x.2.2] 30 (0, 0)) := (hE3.block (lt_blk HBXC.out)).trans HBXC.out
    have hb63 : w3.heap[w1.heap.size]? = some (.cells #[.slice rA s.2.1 rc] 22 (0, 0)) := (hE3.block (lt_blk HBC.out)).trans HBC.out
    have e1 := cell_of_row _ _ 1 _ _ _ hbx3
    have e2 := cell_of_row _ _ 2 _ _ _ hbx3
    have e6 := (cell_one hb63).1
    rw [hrA] at e6
    have htk := totL_le_take HGE.out k
    have HDR := Lib.hid (show (f.parts.drop k).take (s.2.1 - k) = f.parts.drop k from List.take_of_length_le (by rw [List.length_drop, HLS.out]; exact Nat.le_refl _))
    have hsl := fun W (hE : E w3 W) => spSlice_c (some ⟨b5, o5 + k * 3, none⟩) (s.2.1 - k) (s.2.2 - k) (f.parts.drop k) (x.2.1 - totL (f.parts.take k)) x.2.2 W ((hsub.cast HDR.out).e hE) (fun y hy => HPO.out y (List.mem_of_mem_drop hy)) (by omega) (by have := HX.out; omega) (by have := HX.out; omega) (by have := HP46.out; have := HLS.out; omega)
    rw [cut_drop HGE.out k x.2.1 x.2.2 hka, hz6] at hsl
    rw [hz6] at hka
    have HSL := Lib.hid hsl
    have HE3 := Lib.hid hE3
    have hcap := (HFB.out.1).cap
    have hmx := (HFB.out.1).mx
    have HZ := Lib.hid hz6
    have hX := HX.out
    have hz0 : 0 ≤ z6 := by rw [← hz6]; exact htk.1
    have hwr6 : IntKind.i64.wrap (x.2.1 - z6) = x.2.1 - z6 := by rw [IntKind.wrap_i64]; omega
    have hkI : (k : Int) < (s.2.1 : Int) := by omega
    have hkle : (k : Int) ≤ (s.2.1 : Int) := by omega
    have hkz : (0 : Int) ≤ (k : Int) := by omega
    have hcne : ¬ s.2.2 = k := by omega
    have hEa := (E.refl w3).drew
    have hzw := World.block_lt_of_cell? w3 _ e1
    have hzw1 := World.block_lt_of_cell? w3 _ e6
    simp only at hcap hmx hzw hzw1
    clear hsl hsub hbx3 hb63 htk hE3 hz6 dn hc6
    rw [hs1]
    have HK := Lib.hid (fun W (hEa : E w3 W) => show (fun w' => w'.cell? ⟨w.heap.size, 1, none⟩ = some (.int .i64 x.2.1) ∧ w'.cell? ⟨w.heap.size, 2, none⟩ = some (.int .i64 x.2.2) ∧ w'.cell? ⟨w1.heap.size, 0, none⟩ = some (.slice (some ⟨b6, o6, none⟩) s.2.1 rc) ∧ w'.cell? ⟨b6, o6 + k, none⟩ = some (.int .i64 z6)) W from ⟨(hEa.cell (p := ⟨w.heap.size, 1, none⟩) hzw).trans e1, (hEa.cell (p := ⟨w.heap.size, 2, none⟩) hzw).trans e2, (hEa.cell (p := ⟨w1.heap.size, 0, none⟩) hzw1).trans e6, (hEa.cell (p := ⟨b6, o6 + k, none⟩) hb6).trans d6⟩)
    refine wp_region_held_drew (S := (fun w' => w'.cell? ⟨w.heap.size, 1, none⟩ = some (.int .i64 x.2.1) ∧ w'.cell? ⟨w.heap.size, 2, none⟩ = some (.int .i64 x.2.2) ∧ w'.cell? ⟨w1.heap.size, 0, none⟩ = some (.slice (some ⟨b6, o6, none⟩) s.2.1 rc) ∧ w'.cell? ⟨b6, o6 + k, none⟩ = some (.int .i64 z6))) (by kernel_rfl) (HK.out _ hEa) (fun hHeld => ?_)
    (((refine wpAnyH_take (i := 0) (v := ?_) rfl (by kernel_rfl) (by kernel_rfl) (by kernel_rfl) (fun _ _ _ h => h) (Or.inl ⟨by kernel_rfl, ?_⟩) (by assumption) ?_); rotate_left 1; (focus (intro w hSw; (try dsimp only at hSw); go_simp; (try with_reducible rfl))); (try simp only [Act.put, sA, sB, sC])); ((refine wpAnyH_take (i := 1) (v := ?_) rfl (by kernel_rfl) (by kernel_rfl) (by kernel_rfl) (fun _ _ _ h => h) (Or.inl ⟨by kernel_rfl, ?_⟩) (by assumption) ?_); rotate_left 1; (focus (intro w hSw; (try dsimp only at hSw); go_simp; (try with_reducible rfl))); (try simp only [Act.put, sA, sB, sC])); ((refine wpAnyH_take (i := 2) (v := ?_) rfl (by kernel_rfl) (by kernel_rfl) (by kernel_rfl) (fun _ _ _ h => h) (Or.inl ⟨by kernel_rfl, ?_⟩) (by assumption) ?_); rotate_left 1; (focus (intro w hSw; (try dsimp only at hSw); go_simp; (try with_reducible rfl))); (try simp only [Act.put, sA, sB, sC])); ((refine wpAnyH_take (i := 3) (v := ?_) rfl (by kernel_rfl) (by kernel_rfl) (by kernel_rfl) (fun _ _ _ h => h) (Or.inl ⟨by kernel_rfl, ?_⟩) (by assumption) ?_); rotate_left 1; (focus (intro w hSw; (try dsimp only at hSw); go_simp; (try with_reducible rfl))); (try simp only [Act.put, sA, sB, sC])); ((refine wpAnyH_take (i := 4) (v := ?_) rfl (by kernel_rfl) (by kernel_rfl) (by kernel_rfl) (fun _ _ _ h => h) (Or.inl ⟨by kernel_rfl, ?_⟩) (by assumption) ?_); rotate_left 1; (focus (intro w hSw; (try dsimp only at hSw); go_simp; (try with_reducible rfl))); (try simp only [Act.put, sA, sB, sC])); ((refine wpAnyH_take (i := 5) (v := ?_) rfl (by kernel_rfl) (by kernel_rfl) (by kernel_rfl) (fun _ _ _ h => h) (Or.inl ⟨by kernel_rfl, ?_⟩) (by assumption) ?_); rotate_left 1; (focus (intro w hSw; (try dsimp only at hSw); go_simp; (try with_reducible rfl))); (try simp only [Act.put, sA, sB, sC])); ((refine wpAnyH_take (i := 6) (v := ?_) rfl (by kernel_rfl) (by kernel_rfl) (by kernel_rfl) (fun _ _ _ h => h) (Or.inl ⟨by kernel_rfl, ?_⟩) (by assumption) ?_); rotate_left 1; (focus (intro w hSw; (try dsimp only at hSw); go_simp; (try with_reducible rfl))); (try simp only [Act.put, sA, sB, sC])); ((refine wpAnyH_take (i := 7) (v := ?_) rfl (by kernel_rfl) (by kernel_rfl) (by kernel_rfl) (fun _ _ _ h => h) (Or.inl ⟨by kernel_rfl, ?_⟩) (by assumption) ?_); rotate_left 1; (focus (intro w hSw; (try dsimp only at hSw); go_simp; (try with_reducible rfl))); (try simp only [Act.put, sA, sB, sC])); ((refine wpAnyH_take (i := 8) (v := ?_) rfl (by kernel_rfl) (by kernel_rfl) (by kernel_rfl) (fun _ _ _ h => h) (Or.inl ⟨by kernel_rfl, ?_⟩) (by assumption) ?_); rotate_left 1; (focus (intro w hSw; (try dsimp only at hSw); go_simp; (try with_reducible rfl))); (try simp only [Act.put, sA, sB, sC])); ((refine wpAnyH_take (i := 9) (v := ?_) rfl (by kernel_rfl) (by kernel_rfl) (by kernel_rfl) (fun _ _ _ h => h) (Or.inl ⟨by kernel_rfl, ?_⟩) (by assumption) ?_); rotate_left 1; (focus (intro w hSw; (try dsimp only at hSw); go_simp; (try with_reducible rfl))); (try simp only [Act.put, sA, sB, sC])); ((refine wpAnyH_take (i := 10) (v := ?_) rfl (by kernel_rfl) (by kernel_rfl) (by kernel_rfl) (fun _ _ _ h => h) (Or.inl ⟨by kernel_rfl, ?_⟩) (by assumption) ?_); rotate_left 1; (focus (intro w hSw; (try dsimp only at hSw); go_simp; (try with_reducible rfl))); (try simp only [Act.put, sA, sB, sC])); ((refine wpAnyH_take (i := 11) (v := ?_) rfl (by kernel_rfl) (by kernel_rfl) (by kernel_rfl) (fun _ _ _ h => h) (Or.inl ⟨by kernel_rfl, ?_⟩) (by assumption) ?_); rotate_left 1; (focus (intro w hSw; (try dsimp only at hSw); go_simp; (try with_reducible rfl))); (try simp only [Act.put, sA, sB, sC])))
    (((refine wpAnyH_ready (rs := [12]) (by kernel_rfl) (by simp) ?_); (refine AllReadyH.cons rfl (fun K hK => ?_) AllReadyH.nil); (rw [if_pos (by kernel_rfl)]); go_simp))
    refine (HSL.out _ hEa).mono ?_
    rintro e w4 ⟨A4, n4, c4, rfl, hO4, hE4⟩
    replace hEa := hEa.trans hE4
    refine hK _ _ (HK.out _ hEa) (fun hh => ?_)
    clear hK K hHeld
    have hHeld := hh
    clear hh
    (try simp only [Act.put, sA, sB, sC])
    (((refine wpAnyH_take (i := 13) (v := ?_) rfl (by kernel_rfl) (by kernel_rfl) (by kernel_rfl) (fun _ _ _ h => h) (Or.inl ⟨by kernel_rfl, ?_⟩) (by assumption) ?_); rotate_left 1; (focus (intro w hSw; (try dsimp only at hSw); go_simp; (try with_reducible rfl))); (try simp only [Act.put, sA, sB, sC])))
    refine wpAnyH_done (by kernel_rfl) ?_ _
    go_simp
    all_goals (
      go_wp2_with fail
      go_ret
      refine ⟨A4, n4, c4, rfl, ?_, (HE1.out.trans (HEC.out.trans HE3.out)).trans hEa⟩
      have hF : srcF fs x = glue (cutU f.parts x.2.1 x.2.2) := by rw [srcF, src_cut HOK.out HH.out HGF.out HN0.out]
      rw [hF]
      exact hO4.rebase (by have h1 := (HE1.out.trans (HEC.out.trans HE3.out)).le; exact h1))
end Go.Proofs.YtmeplpiamkaniaaGreat
namespace Go.Proofs.YtmeplpiamkaniaaGreat
set_option linter.unusedVariables false
set_option linter.unusedSimpArgs false
open Go.RowKit Go.Shelf Go.Sort Go.Lib
theorem grow_none0 (w : World) : w = grow w #[] := by cases w; simp [grow]
theorem revL_c (A : Option Addr) (n c base : Nat) (l : List Lt) (w : World) (h : OwnL w base A n c l) (hn : n ≤ 1000000) :
    Calls Tryz.prog 63 #[.slice A n c] w fun e w' => e = .returned (.tuple #[]) ∧ OwnL w' base A n c l.reverse ∧ w.grownBy w' (ob A) := by
  rcases Nat.eq_zero_or_pos n with h0 | h0
  · subst h0
    have hl : l = [] := List.eq_nil_of_length_eq_zero h.1
    subst hl
    have hS := AnyQ.slices_Reverse_empty Tryz.revL A c w
    change Calls Tryz.prog 63 _ _ _ at hS
    refine hS.mono ?_
    rintro e w' ⟨rfl, rfl⟩
    exact ⟨rfl, h, World.grownBy.refl w' _⟩
  · obtain ⟨a1, ⟨a0, a2⟩, a3⟩ := h
    rcases a2 with ⟨hv, _⟩ | ⟨g, cap, cur, hv, hbase, hh, hnc, hcm, hsz, htk⟩
    · injection hv with e1 e2; omega
    injection hv with e1 e2 e3
    subst e1 e3
    have hF : (flatK encL 3 l.toArray).toList = flatL l := flatK_L l.toArray
    have hFs : (flatK encL 3 l.toArray).size = n * 3 := by rw [size_flatK]; simp [a1]
    have hH : HoldsK encL 3 w g 0 l.toArray := holdsV _ hh (by rw [hFs, hF]; exact htk)
    have hS := AnyQ.slices_Reverse Tryz.revL 3 Tryz.isAgg30 Tryz.sizeOf30 encL (fun _ => rfl) (fun x v hv => by simp [encL] at hv; rcases hv with rfl | rfl | rfl <;> rfl) g 0 c l.toArray w hH (by simp [a1]; omega)
    change Calls Tryz.prog 63 _ _ _ at hS
    have hsz' : l.toArray.size = n := by simp [a1]
    rw [hsz'] at hS
    refine hS.mono ?_
    rintro e w' ⟨rfl, m, rfl⟩
    have hFd : (flatK encL 3 l.toArray.reverse).toList = flatL l.reverse := by rw [flatK_L]; simp
    have hFds : (flatK encL 3 l.toArray.reverse).size = n * 3 := by rw [size_flatK]; simp [a1]
    have e1 : putRowK encL 3 (Sort.ahead w m) g 0 l.toArray.reverse = grow (putRow id (Sort.ahead w m) g 0 (flatK encL 3 l.toArray.reverse)) #[] := grow_none0 _
    rw [e1]
    refine ⟨rfl, ⟨by rw [List.length_reverse, a1], ⟨by rw [flatL_len, List.length_reverse, a1], .inr ⟨g, c, _, rfl, hbase, heap_sortedV _ hh, hnc, hcm, by simp [putCells, hsz], ?_⟩⟩, fun x hx => a3 x (List.mem_reverse.1 hx)⟩, grownBy_sortedV _⟩
    rw [← hFds, take_putV _ _ (by rw [hFds, hsz]; exact Nat.mul_le_mul_right 3 hnc), hFd]
end Go.Proofs.YtmeplpiamkaniaaGreat
namespace Go.Proofs.YtmeplpiamkaniaaGreat
set_option linter.unusedVariables false
set_option linter.unusedSimpArgs false
open Go.RowKit
theorem OwnL.take_ {w : World} {base g n c : Nat} {l : List Lt} (h : OwnL w base (some ⟨g, 0, none⟩) n c l) {m : Nat} (hm : m ≤ n) : OwnL w base (some ⟨g, 0, none⟩) m c (l.take m) := by
  have hl := h.1
  refine ⟨by rw [List.length_take]; omega, ⟨by rw [flatL_len, List.length_take]; omega, ?_⟩, fun y hy => h.2.2 y (List.mem_of_mem_take hy)⟩
  rcases h.2.1.2 with ⟨hv, _⟩ | ⟨g', cap, cur, hv, hb, hh, h1, h2, h3, h4⟩
  · injection hv with e; cases e
  · injection hv with e1 e2 e3
    subst e3
    refine .inr ⟨g', _, cur, by rw [e1], hb, hh, by omega, h2, h3, ?_⟩
    have := congrArg (List.take (m * 3)) h4
    rw [List.take_take, Nat.min_eq_left (by omega)] at this
    rw [this]
    have e5 : flatL l = flatL (l.take m) ++ flatL (l.drop m) := by rw [← flatL_app, List.take_append_drop]
    rw [e5, List.take_append_of_le_length (by rw [flatL_len, List.length_take]; omega), List.take_of_length_le (by rw [flatL_len, List.length_take]; omega)]
theorem OwnL.one {w : World} {x : Lt} (hx : WfL x) : OwnL (w.alloc (.cells #[.int .i64 x.1, .int .i64 x.2.1, .int .i64 x.2.2] 30)) w.heap.size (some ⟨w.heap.size, 0, none⟩) 1 1 [x] :=
  ⟨rfl, ⟨rfl, .inr ⟨w.heap.size, 1, _, rfl, Nat.le_refl _, heap_alloc_new w _, Nat.le_refl _, by unfold maxLen; omega, rfl, rfl⟩⟩, by intro y hy; rw [List.mem_singleton] at hy; subst hy; exact hx⟩
theorem glue_len_le (us : List Un) : (glue us).length ≤ us.length := by
  have := len_units (l := glue us) (glue_glued us).mem
  rwa [U_glue] at this
theorem addL_glue {us : List Un} {x : Lt} (hx : 0 ≤ x.2.2) : addL (glue us) x = glue (us ++ ul x) :=
  glued_eq (glued_add (glue_glued us) hx) (by rw [U_add (fun y hy => by have := (glue_glued us).mem y hy; omega) hx, U_glue])
theorem has_wf {fs : List Fl} (hw : ∀ f ∈ fs, WfF f) {y : Lt} (h : hasF fs y = true) : WfL y ∧ possB y = true := by
  obtain ⟨h1, f, h2, _⟩ := hasF_iff.1 h
  have := (wf_i64 (hw f (getF_some h2).1).1).2
  rw [(getF_some h2).2] at this
  exact ⟨wfL_of h1 this, h1⟩
theorem glue_inG_poss {fs : List Fl} (hg : GOk fs) {us : List Un} (h : ∀ u ∈ us, InG fs u) : ∀ y ∈ glue us, hasF fs y = true ∧ possB y = true := fun y hy => by
  have := poss_units hg ((glue_glued us).mem y hy) (fun u hu => h u (by rw [← U_glue us]; exact mem_U.2 ⟨y, hy, hu⟩))
  exact ⟨this.2, this.1⟩
theorem GraphAt.wfs {w : World} {X : Nat → Prop} {g : Nat} {fs : List Fl} (h : GraphAt w X g fs) : ∀ f ∈ fs, WfF f := by obtain ⟨p, h⟩ := h; exact h.flows.wf
structure RtM (w1 wr : World) (fs : List Fl) (r : Un → Un) (x : Lt) (waiting : List Lt) (us : List Un) (Aw : Option Addr) (nw cw : Nat) (Ar : Option Addr) (nr cr : Nat) : Prop where
  e : E w1 wr
  ow : OwnL wr w1.heap.size Aw nw cw waiting
  oR : OwnL wr w1.heap.size Ar nr cr (glue us)
  ap : apartS Aw Ar
  st : RtSt fs r x waiting us
theorem RtSt.top {fs : List Fl} {r : Un → Un} {x next : Lt} {s : List Lt} {us : List Un} (h : RtSt fs r x (s ++ [next]) us) : next.2.2.toNat ≤ x.2.2.toNat := by
  have := congrArg List.length h.all
  rw [List.reverse_append, List.flatMap_append, List.length_append, List.length_append, List.length_map, ul_len] at this
  simp only [List.reverse_singleton, List.flatMap_cons, List.flatMap_nil, List.append_nil, List.length_map, ul_len] at this
  omega
theorem RtSt.inG {fs : List Fl} (hg : GOk fs) {r : Un → Un} (hr : RootOf fs r) {x : Lt} (hx : hasF fs x = true) {waiting : List Lt} {us : List Un} (h : RtSt fs r x waiting us) : ∀ u ∈ us, InG fs u := fun u hu => by
  have hm : u ∈ (ul x).map r := by rw [← h.all]; exact List.mem_append_left _ hu
  obtain ⟨v, hv, rfl⟩ := List.mem_map.1 hm
  exact hr.inG hg v (hasF_units hx v hv)
set_option linter.unusedSimpArgs false in
set_option maxHeartbeats 4000000 in
set_option maxRecDepth 100000 in
theorem gRoots_c (X : Nat → Prop) (g : Nat) (fs : List Fl) (r : Un → Un) (x : Lt) (w : World) (h : GraphAt w X g fs) (hr : RootOf fs r) (hx : WfL x) (hN : hasF fs x = true → x.2.2 ≤ 300000) :
    Calls Tryz.prog 21 #[.pointer (some ⟨g, 0, none⟩), ltV x] w (RetL w (rootF fs r x)) := by
  obtain ⟨w1, hw1⟩ : ∃ w1, w.alloc (.cells #[.int .i64 x.1, .int .i64 x.2.1, .int .i64 x.2.2] 30) = w1 := ⟨_, rfl⟩
  have hE1 : E w w1 := by rw [← hw1]; exact (E.refl w).alloc _
  have hx3 := cells3_new w (.int .i64 x.1) (.int .i64 x.2.1) (.int .i64 x.2.2) 30
  rw [hw1] at hx3
  have HZ1 := Lib.hid (show w.heap.size < w1.heap.size by rw [← hw1]; simp)
  have HH := Lib.hid (gHas_c X g fs x w1 (h.e hE1) hx)
  have HE1 := Lib.hid hE1
  have HX3 := Lib.hid hx3
  have HG := Lib.hid (h.e hE1)
  have HX := Lib.hid hx
  have HOK := Lib.hid h.ok
  have HWF := Lib.hid h.wfs
  have HRT := Lib.hid hr
  obtain ⟨c0, c1, c2⟩ := hx3
  obtain ⟨bv, hbv⟩ : ∃ bv, hasF fs x = bv := ⟨_, rfl⟩
  have HBV := Lib.hid hbv
  rw [hbv] at HH
  have HRF := Lib.hid (show rootF fs r x = if bv = true then glue ((ul x).map r) else [] by rw [rootF, hbv])
  have HN := Lib.hid hN
  clear h hE1 hx hbv hr hN
  unfold ltV at *
  cases bv
  · go_enter Tryz.func21, Tryz.ntmps21
    go_upto_region 1 with fail
    try rw [hw1]
    clear hw1
    go_wp2_with (go_at_call 34; refine HH.out.mono ?_; rintro e w3 ⟨rfl, hE3⟩)
    go_ret
    refine ⟨none, 0, 0, rfl, ?_, HE1.out.trans hE3⟩
    rw [HRF.out]; exact OwnL.nil _ _
  · go_enter Tryz.func21, Tryz.ntmps21
    go_upto_region 1 with fail
    try rw [hw1]
    clear hw1
    go_upto_region 4 with (go_at_call 34; refine HH.out.mono ?_; rintro e w3 ⟨rfl, hE3⟩)
    clear c0 c1 c2
    have c0 := (hE3.cell (p := ⟨w.heap.size, 0, none⟩) HZ1.out).trans HX3.out.1
    have c1 := (hE3.cell (p := ⟨w.heap.size, 1, none⟩) HZ1.out).trans HX3.out.2.1
    have c2 := (hE3.cell (p := ⟨w.heap.size, 2, none⟩) HZ1.out).trans HX3.out.2.2
    obtain ⟨w4, hw4⟩ : ∃ w4, w3.alloc (.cells #[.int .i64 x.1, .int .i64 x.2.1, .int .i64 x.2.2] 30) = w4 := ⟨_, rfl⟩
    have hE4 : E w3 w4 := by rw [← hw4]; exact (E.refl w3).alloc _
    have hO4 : OwnL w4 w3.heap.size (some ⟨w3.heap.size, 0, none⟩) 1 1 [x] := by rw [← hw4]; exact OwnL.one HX.out
    have HM4 := Lib.hid (show RtM w1 w4 fs r x [x] [] (some ⟨w3.heap.size, 0, none⟩) 1 1 none 0 0 from ⟨hE3.trans hE4, hO4.rebase (base' := w1.heap.size) hE3.le, OwnL.nil _ _, fun b _ e => (by cases e), RtSt.start HBV.out⟩)
    have HX2 := Lib.hid (HN.out HBV.out)
    clear hE4 hO4 hE3
    obtain ⟨rk, hrk⟩ := HOK.out.rk
    have HRK := Lib.hid hrk
    clear hrk
    go_wp2_with fail
    try rw [hw4]
    clear hw4 c0 c1 c2
    go_loopg [5, 6] (rtM rk [x]) (fun m t5 t6 wr => ∃ (waiting : List Lt) (us : List Un) (Aw : Option Addr) (nw cw : Nat) (Ar : Option Addr) (nr cr : Nat), t6 = .slice Aw nw cw ∧ t5 = .slice Ar nr cr ∧ rtM rk waiting ≤ m ∧ RtM w1 wr fs r x waiting us Aw nw cw Ar nr cr)
    case atStart => exact ⟨[x], [], _, _, _, _, _, _, rfl, rfl, Nat.le_refl _, HM4.out⟩
    case round =>
      clear HM4
      obtain ⟨waiting, us, Aw, nw, cw, Ar, nr, cr, rfl, rfl, hmm, hM⟩ := hrel
      have hcnt := hM.st.cnt
      rcases snoc_cases waiting with rfl | ⟨s, next, rfl⟩
      · have h0 : nw = 0 := by rw [← hM.ow.1]; rfl
        subst h0
        have HM := Lib.hid hM
        have hRF : rootF fs r x = glue us := by rw [← hM.st.done HBV.out]
        have HRF2 := Lib.hid hRF
        clear hM hRF hmm hcnt
        go_wp2_with fail
        go_ret
        refine ⟨Ar, nr, cr, rfl, ?_, HE1.out.trans HM.out.e⟩
        rw [HRF2.out]
        exact HM.out.oR.rebase HE1.out.le
      · obtain ⟨k, hk⟩ : ∃ k, s.length = k := ⟨_, rfl⟩
        have hnw : nw = k + 1 := by rw [← hM.ow.1, List.length_append, hk]; rfl
        have ek : (nw : Int) - 1 = (k : Int) := by omega
        have ekn : (k : Int) < (nw : Int) := by omega
        have enz : (0 : Int) < (nw : Int) := by omega
        obtain ⟨gw, rfl⟩ : ∃ gw, Aw = some ⟨gw, 0, none⟩ := by
          rcases hM.ow.form with ⟨_, h0, _⟩ | ⟨gw, h0, _⟩
          · omega
          · exact ⟨gw, h0⟩
        have hcap := hM.ow.reads.cap
        have hc63 := hM.ow.reads.c63
        obtain ⟨b, o, y, hA, hbb, hy, hwy, d0, d1, d2⟩ := hM.ow.reads.get (i := k) (by omega)
        injection hA with hA
        injection hA with hA1 hA2
        subst hA1 hA2
        rw [← hk, last_get] at hy
        injection hy with hy
        subst hy
        simp only [Nat.zero_add] at d0 d1 d2
        have hnx := hM.st.has next (by simp)
        obtain ⟨f, hgf, _, _, _, hn1, _⟩ := has_get hnx
        obtain ⟨V, hV⟩ : ∃ V, wr.alloc (.cells #[.int .i64 next.1, .int .i64 next.2.1, .int .i64 next.2.2] 30) = V := ⟨_, rfl⟩
        have hEV : E wr V := by rw [← hV]; exact (E.refl wr).alloc _
        have hx3' := cells3_new wr (.int .i64 next.1) (.int .i64 next.2.1) (.int .i64 next.2.2) 30
        rw [hV] at hx3'
        have HX3' := Lib.hid hx3'
        have HZV := Lib.hid (show wr.heap.size < V.heap.size by rw [← hV]; simp)
        have HSO := Lib.hid (gsources_c X g fs next V (HG.out.e (hM.e.trans hEV)) hwy hnx)
        have HM := Lib.hid hM
        have HEV := Lib.hid hEV
        have HGF := Lib.hid hgf
        have HNX := Lib.hid hnx
        have HWY := Lib.hid hwy
        have HMM := Lib.hid hmm
        have HNW := Lib.hid (And.intro hnw hk)
        have HCN := Lib.hid hcnt
        have hkc : k ≤ cw := by omega
        have HOT := Lib.hid (show OwnL V w1.heap.size (some ⟨gw, 0, none⟩) k cw s from by
          have := (hM.ow.e hEV).take_ (m := k) (by omega)
          rw [← hk, List.take_left] at this
          rw [← hk]; exact this)
        clear hM hEV hgf hnx hwy hmm hnw hk hx3' hcnt
        unfold ltV at HSO
        go_upto_region 7 with fail
        try rw [hV]
        clear hV d0 d1 d2
        obtain ⟨d0, d1, d2⟩ := HX3'.out
        by_cases hp : f.parts = []
        · have HS2 := Lib.hid (HSO.out.mono (R' := fun e w' => ∃ A5 c5, e = .returned (.slice A5 0 c5) ∧ E V w') (by
            rintro e w' ⟨A5, n5, c5, rfl, hO5, hE5⟩
            have : n5 = 0 := by rw [← hO5.1, srcF_new HGF.out hp]; rfl
            subst this
            exact ⟨A5, c5, rfl, hE5⟩))
          have HST := Lib.hid (HM.out.st.new HRT.out HGF.out hp)
          clear hp
          go_upto_region 10 with (go_at_call 61; refine HS2.out.mono ?_; rintro e w5 ⟨A5, c5, rfl, hE5⟩)
          clear d0 d1 d2
          have d0 := (hE5.cell (p := ⟨wr.heap.size, 0, none⟩) HZV.out).trans HX3'.out.1
          have d1 := (hE5.cell (p := ⟨wr.heap.size, 1, none⟩) HZV.out).trans HX3'.out.2.1
          have d2 := (hE5.cell (p := ⟨wr.heap.size, 2, none⟩) HZV.out).trans HX3'.out.2.2
          have hR5 : OwnL w5 w1.heap.size Ar nr cr (glue us) := (HM.out.oR.e HEV.out).e hE5
          have hE15 : E w1 w5 := (HM.out.e.trans HEV.out).trans hE5
          have HA := Lib.hid (append_c next Ar nr cr w1.heap.size (glue us) w5 hR5 (fun y hy => (glue_inG_poss HOK.out (HM.out.st.inG HOK.out HRT.out HBV.out) y hy).2) (fun _ => (has_wf HWF.out HNX.out).2) HWY.out hE15.le (by have h1 := hR5.1; have h2 := glue_len_le us; have := HCN.out; have := HX2.out; omega))
          unfold ltV at HA
          have HE15 := Lib.hid hE15
          have HO5 := Lib.hid (HOT.out.e hE5)
          have HR5 := Lib.hid hR5
          clear hE15 hR5 hE5
          go_wp2_with (go_at_call 62; refine HA.out.mono ?_; rintro e w6 ⟨A6, n6, c6, rfl, hO6, hG6, hor6⟩)
          have hle : rtM rk s < rtM rk (s ++ [next]) := by
            rw [rtM_app]
            have := rtM_one rk next (has_get HNX.out).choose_spec.2.2.2.2.1
            omega
          go_roundg (rtM rk s)
          case measure => have := HMM.out; omega
          case rel =>
            refine ⟨s, us ++ ul next, _, _, _, _, _, _, rfl, rfl, Nat.le_refl _, ⟨HE15.out.grown hG6 (fun b hb => (HR5.out.ltN b hb).1), HO5.out.kept hG6 HM.out.ap, ?_, ?_, HST.out⟩⟩
            · rw [addL_glue (by have := (has_get HNX.out).choose_spec.2.2.2.2.1; omega)] at hO6
              exact hO6
            · intro b hb hb'
              rcases hor6 with h | h
              · rw [h] at hb'; exact HM.out.ap b hb hb'
              · have h1 := h b hb'
                have h2 := (HO5.out.ltN b hb).2
                omega
        · have HS2 := Lib.hid (HSO.out.mono (R' := fun e w' => ∃ A5 n5 c5, e = .returned (.slice A5 n5 c5) ∧ ((n5 : Int) == 0) = false ∧ n5 ≤ 1000000 ∧ OwnL w' V.heap.size A5 n5 c5 (srcF fs next) ∧ E V w') (by
            rintro e w' ⟨A5, n5, c5, rfl, hO5, hE5⟩
            have h1 := srcF_ne HOK.out HNX.out HGF.out hp
            have h2 : 0 < n5 := by rw [← hO5.1]; exact List.length_pos_iff.2 h1
            refine ⟨A5, n5, c5, rfl, by simp; omega, ?_, hO5, hE5⟩
            have h3 := glue_len_le ((ul next).filterMap (srcU fs))
            rw [src_len HOK.out HNX.out HGF.out hp] at h3
            have h4 := hO5.1
            have h5 := HM.out.st.cnt
            rw [← h4]
            have h6 := HM.out.st.top
            have := HX2.out
            exact Nat.le_trans h3 (by omega)))
          have HST := Lib.hid (HM.out.st.more HOK.out HRT.out HGF.out hp)
          have HML := Lib.hid (rtM_src HOK.out HRK.out HNX.out HGF.out hp)
          clear hp
          go_upto_region 12 with (first | (go_at_call 61; refine HS2.out.mono ?_; rintro e w5 ⟨A5, n5, c5, rfl, dn5, hn5, hO5, hE5⟩) | (go_at_call 63; refine (revL_c _ _ _ _ _ _ hO5 hn5).mono ?_; rintro e w6 ⟨rfl, hO6, hG6⟩))
          have hS6 : OwnL w6 w1.heap.size (some ⟨gw, 0, none⟩) k cw s := (HOT.out.e hE5).kept hG6 (fun b hb hb' => by
            have h1 := (hO5.ltN b hb').1
            have h2 := (HOT.out.ltN b hb).2
            omega)
          have hR6 : OwnL w6 w1.heap.size Ar nr cr (glue us) := ((HM.out.oR.e HEV.out).e hE5).kept hG6 (fun b hb hb' => by
            have h1 := (hO5.ltN b hb').1
            have h2 := ((HM.out.oR.e HEV.out).ltN b hb).2
            omega)
          have hE16 : E w1 w6 := ((HM.out.e.trans HEV.out).trans hE5).grown hG6 (fun b hb => by
            have h1 := (hO5.ltN b hb).1
            have h2 := (HM.out.e.trans HEV.out).le
            omega)
          have HS6 := Lib.hid hS6
          have HR6 := Lib.hid hR6
          have HE16 := Lib.hid hE16
          have HR5 := Lib.hid hO6.reads
          have HK6 := Lib.hid (show k + n5 ≤ 1099511627776 by have := HCN.out; have := HNW.out.2; have := HX2.out; simp only [List.length_append, List.length_singleton] at *; omega)
          clear hS6 hR6 hE16 hO5 hE5 hO6 hG6 dn5
          go_wp2_with (at_builtin; refine wpList_appL _ rfl _ _ rfl w1.heap.size _ _ _ s rfl HS6.out _ _ _ (srcF fs next).reverse rfl HR5.out HK6.out HE16.out.le ?_; intro A7 c7 w7 hO7 hG7 hB7 hor7)
          have hle : rtM rk (s ++ (srcF fs next).reverse) < rtM rk (s ++ [next]) := by
            rw [rtM_app, rtM_app, rtM_rev]
            have := HML.out
            omega
          go_roundg (rtM rk (s ++ (srcF fs next).reverse))
          case measure => have := HMM.out; omega
          case rel =>
            refine ⟨s ++ (srcF fs next).reverse, us, _, _, _, _, _, _, rfl, rfl, Nat.le_refl _, ⟨HE16.out.grown hG7 (fun b hb => (HS6.out.ltN b hb).1), hO7, HR6.out.kept hG7 HM.out.ap.symm, ?_, HST.out⟩⟩
            intro b hb hb'
            rcases hor7 with h | h
            · rw [h] at hb; exact HM.out.ap b hb hb'
            · rw [h] at hb
              injection hb with hb
              have := (HR6.out.ltN b hb').2
              omega
end Go.Proofs.YtmeplpiamkaniaaGreat
namespace Go.Proofs.YtmeplpiamkaniaaGreat
set_option linter.unusedVariables false
set_option linter.unusedSimpArgs false
open Go.RowKit
theorem mapLT : MapT' 113 41 (.slice none 0 0) := ⟨Tryz.underlying113, fun w => Tryz.zeroValue41 w⟩
abbrev LR := List Lt × Option Addr × Nat × Nat
def slV (r : LR) : Value := .slice r.2.1 r.2.2.1 r.2.2.2
def noR : LR := ([], none, 0, 0)
def LotB (w : World) (j : Nat) : Prop := ∃ cs fr, w.heap[j]? = some (.cells cs 30 fr)
theorem OwnL.lotB {w : World} {base : Nat} {A : Option Addr} {n c b : Nat} {l : List Lt} (h : OwnL w base A n c l) (hb : ob A = some b) : base ≤ b ∧ LotB w b := by
  refine ⟨(h.ltN b hb).1, ?_⟩
  rcases h.2.1.2 with ⟨hv, _⟩ | ⟨g, cap, cur, hv, hbg, hh, r⟩
  · injection hv with hA; rw [hA] at hb; cases hb
  · injection hv with hA
    rw [hA] at hb
    have : g = b := by simpa [ob] using hb
    subst this
    exact ⟨_, _, hh⟩
theorem MapD.notLot {w : World} {b n : Nat} {f : Int → Option Value} (h : MapD w b n f) : ¬ LotB w b := by
  rintro ⟨cs, fr, e⟩
  obtain ⟨D, ⟨es, clock, h1, _⟩, _⟩ := h
  rw [e] at h1; cases h1
structure FamL (w : World) (base mb km : Nat) (f : Int → Option Value) (P : Int → Prop) (F : Int → LR) (Z : Nat → Prop) : Prop where
  map : MapD w mb km f
  bl : base ≤ mb ∧ ¬ Z mb
  at_ : ∀ i, P i → (f i).getD (.slice none 0 0) = slV (F i)
  rows : ∀ i, P i → OwnL w base (F i).2.1 (F i).2.2.1 (F i).2.2.2 (F i).1
  ap : ∀ i j, P i → P j → i ≠ j → apartS (F i).2.1 (F j).2.1
  off : ∀ i, P i → ∀ b, ob (F i).2.1 = some b → ¬ Z b
section
variable {w w' : World} {base mb km : Nat} {f : Int → Option Value} {P : Int → Prop} {F : Int → LR} {Z : Nat → Prop}
theorem FamL.made (w : World) (P : Int → Prop) (Z : Nat → Prop) (hb : base ≤ w.heap.size) (hZ : ¬ Z w.heap.size) : FamL (w.alloc (.map #[] 0)) base w.heap.size 0 (fun _ => none) P (fun _ => noR) Z :=
  ⟨MapD.made w, ⟨hb, hZ⟩, fun _ _ => rfl, fun _ _ => OwnL.nil _ _, fun _ _ _ _ _ b hb => (by cases hb), fun _ _ b hb => (by cases hb)⟩
theorem FamL.ex {X : Nat → Prop} (h : FamL w base mb km f P F Z) (hX : Ex X w w') (hXZ : ∀ j, X j → Z j ∨ j < base) : FamL w' base mb km f P F Z :=
  ⟨h.map.block (hX.block _ h.map.lt (fun x => (hXZ _ x).elim h.bl.2 (fun x => by have := h.bl.1; omega))), h.bl, h.at_,
    fun i hi => (h.rows i hi).ex hX (fun b hb x => (hXZ _ x).elim (h.off i hi b hb) (fun x => by have := ((h.rows i hi).ltN b hb).1; omega)), h.ap, h.off⟩
theorem FamL.e (h : FamL w base mb km f P F Z) (hE : E w w') : FamL w' base mb km f P F Z := h.ex (X := fun _ => False) (Ex.of_e hE) (fun _ x => x.elim)
theorem FamL.z {Z' : Nat → Prop} (h : FamL w base mb km f P F Z) (hZ : ∀ j, Z' j → Z j ∨ w.heap.size ≤ j) : FamL w base mb km f P F Z' :=
  ⟨h.map, ⟨h.bl.1, fun x => (hZ _ x).elim h.bl.2 (fun x => by have := h.map.lt; omega)⟩, h.at_, h.rows, h.ap,
    fun i hi b hb x => (hZ _ x).elim (h.off i hi b hb) (fun x => by have := ((h.rows i hi).ltN b hb).2; omega)⟩
theorem FamL.sub {P' : Int → Prop} (h : FamL w base mb km f P F Z) (hP : ∀ i, P' i → P i) : FamL w base mb km f P' F Z :=
  ⟨h.map, h.bl, fun i hi => h.at_ i (hP i hi), fun i hi => h.rows i (hP i hi), fun i j hi hj => h.ap i j (hP i hi) (hP j hj), fun i hi => h.off i (hP i hi)⟩
theorem FamL.look (h : FamL w base mb km f P F Z) {i : Int} (hi : P i) (hx : (Lit.int .i64 i).wf = true) : (Instr.lookup 113 (.map (some mb)) (.int .i64 i) false).run Tryz.prog w = .ok (slV (F i)) w := by
  rw [h.map.look mapLT hx, h.at_ i hi]
def updI {α : Type} (f : Int → α) (k : Int) (v : α) : Int → α := fun k' => if k' = k then v else f k'
theorem updI_same {α : Type} (f : Int → α) (k : Int) (v : α) : updI f k v k = v := if_pos rfl
theorem updI_ne {α : Type} (f : Int → α) {k k' : Int} (v : α) (h : k' ≠ k) : updI f k v k' = f k' := if_neg h
theorem FamL.put (h : FamL w base mb km f P F Z) (i : Int) (hx : (Lit.int .i64 i).wf = true) (hk : km < maxLen) (r : LR) (hr : OwnL w base r.2.1 r.2.2.1 r.2.2.2 r.1) (hap : ∀ j, P j → j ≠ i → apartS (F j).2.1 r.2.1) (hz : ∀ b, ob r.2.1 = some b → ¬ Z b) :
    ∃ w2, (Instr.mapUpdate 113 (.map (some mb)) (.int .i64 i) (slV r)).run Tryz.prog w = .ok () w2 ∧ FamL w2 base mb (km + 1) (updI f i (some (slV r))) (fun j => P j ∨ j = i) (updI F i r) Z ∧ Ex (fun j => j = mb) w w2 := by
  obtain ⟨w2, hrun, hM, hG⟩ := h.map.put mapLT (slV r) hx hk
  have hX : Ex (fun j => j = mb) w w2 := ⟨hG.os, hG.tape, hG.output, hG.size, fun j hj hx => hG.block j hj (fun e => hx (by injection e))⟩
  refine ⟨w2, hrun, ⟨hM, h.bl, fun j hj => ?_, fun j hj => ?_, fun j k hj hk hne => ?_, fun j hj b hb => ?_⟩, hX⟩
  · show ((if j = i then some (slV r) else f j).getD _) = _
    by_cases e : j = i
    · subst e; rw [if_pos rfl, updI_same]; rfl
    · rw [if_neg e, updI_ne _ _ e]; exact h.at_ j (hj.resolve_right e)
  · by_cases e : j = i
    · subst e; rw [updI_same]; exact hr.ex hX (fun b hb x => h.map.notLot (x ▸ (hr.lotB hb).2))
    · rw [updI_ne _ _ e]; exact (h.rows j (hj.resolve_right e)).ex hX (fun b hb x => h.map.notLot (x ▸ ((h.rows j (hj.resolve_right e)).lotB hb).2))
  · by_cases e : j = i
    · subst e
      have e2 : k ≠ j := fun e => hne e.symm
      rw [updI_same, updI_ne _ _ e2]; exact (hap k (hk.resolve_right e2) e2).symm
    · rw [updI_ne _ _ e]
      by_cases e2 : k = i
      · subst e2; rw [updI_same]; exact hap j (hj.resolve_right e) e
      · rw [updI_ne _ _ e2]; exact h.ap j k (hj.resolve_right e) (hk.resolve_right e2) hne
  · by_cases e : j = i
    · subst e; rw [updI_same] at hb; exact hz b hb
    · rw [updI_ne _ _ e] at hb; exact h.off j (hj.resolve_right e) b hb
theorem FamL.add (h : FamL w base mb km f P F Z) {i : Int} (hi : P i) (hx : (Lit.int .i64 i).wf = true) (hk : km < maxLen) (hbase : base ≤ w.heap.size) {V : World} (hE : E w V) (hZV : ¬ Z V.heap.size) (A2 : Option Addr) (m c2 : Nat) (l2 : List Lt) (hr : LotsAt V A2 m c2 l2) (hn : (F i).2.2.1 + m ≤ 1099511627776) (ty : TypeId) :
    ∃ A' c' w1 w2, (Builtin.append_ #[41, 41] ty #[slV (F i), .slice A2 m c2]).run Tryz.prog V = .ok (.slice A' ((F i).2.2.1 + m) c') w1 ∧
      (Instr.mapUpdate 113 (.map (some mb)) (.int .i64 i) (.slice A' ((F i).2.2.1 + m) c')).run Tryz.prog w1 = .ok () w2 ∧
      FamL w2 base mb (km + 1) (updI f i (some (.slice A' ((F i).2.2.1 + m) c'))) P (updI F i ((F i).1 ++ l2, A', (F i).2.2.1 + m, c')) Z ∧ Ex (fun j => base ≤ j ∧ ¬ Z j) w w2 ∧ Ex (fun j => base ≤ j ∧ ¬ Z j) w w1 ∧ (ob A' = ob (F i).2.1 ∨ ob A' = some V.heap.size) := by
  have hV := h.e hE
  have hO := hV.rows i hi
  obtain ⟨A', c', w1, hrun, hO1, hG, hor⟩ := run_appL V ty base (F i).2.1 (F i).2.2.1 (F i).2.2.2 (F i).1 hO A2 m c2 l2 hr hn (Nat.le_trans hbase hE.le)
  have hX1 : Ex (fun j => ob (F i).2.1 = some j) V w1 := ⟨hG.os, hG.tape, hG.output, hG.size, fun j hj hx => hG.block j hj (fun e => hx e.symm)⟩
  have hXw : Ex (fun j => ob (F i).2.1 = some j) w w1 := (Ex.of_e hE).trans hX1 (fun _ _ x => x) (fun _ _ x => x)
  have hAz : ∀ b, ob A' = some b → ¬ Z b := fun b hb => by
    rcases hor with e | e
    · rw [e] at hb; exact h.off i hi b hb
    · rw [e] at hb; injection hb with hb; subst hb; exact hZV
  have h1 : FamL w1 base mb km f (fun j => P j ∧ j ≠ i) F Z :=
    ⟨hV.map.block (hX1.block _ hV.map.lt (fun e => hV.map.notLot (hO.lotB e).2)), h.bl, fun j hj => h.at_ j hj.1,
      fun j hj => (hV.rows j hj.1).ex hX1 (fun b hb x => h.ap j i hj.1 hi hj.2 b hb x), fun j k hj hk => h.ap j k hj.1 hk.1, fun j hj => h.off j hj.1⟩
  have hap : ∀ j, (P j ∧ j ≠ i) → j ≠ i → apartS (F j).2.1 A' := fun j hj _ b hb hb' => by
    rcases hor with e | e
    · rw [e] at hb'; exact h.ap j i hj.1 hi hj.2 b hb hb'
    · rw [e] at hb'
      injection hb' with hb'
      have := ((hV.rows j hj.1).ltN b hb).2
      omega
  obtain ⟨w2, hrun2, hF, hX2⟩ := h1.put i hx hk ((F i).1 ++ l2, A', (F i).2.2.1 + m, c') hO1 hap hAz
  refine ⟨A', c', w1, w2, hrun, hrun2, hF.sub (fun j hj => ?_), ?_, hXw.mono fun j _ hj => ⟨((h.rows i hi).ltN j hj).1, h.off i hi j hj⟩, hor⟩
  · by_cases e : j = i
    · exact .inr e
    · exact .inl ⟨hj, e⟩
  · refine hXw.trans hX2 (fun j _ hj => ⟨((h.rows i hi).ltN j hj).1, h.off i hi j hj⟩) (fun j _ hj => ?_)
    subst hj; exact h.bl
end
end Go.Proofs.YtmeplpiamkaniaaGreat
namespace Go.Proofs.YtmeplpiamkaniaaGreat
set_option linter.unusedVariables false
set_option linter.unusedSimpArgs false
open Go.RowKit
theorem upd_one (x : Lt) (s : Option Addr × Nat × Nat) (j q : Nat) : (updI (fun _ => noR) (j : Int) (([x], s) : LR) (q : Int)).1 = if q = j then [x] else [] := by
  by_cases e : q = j
  · subst e; rw [updI_same, if_pos rfl]
  · rw [updI_ne _ _ (by omega), if_neg e]; rfl
theorem wpList_app_runQ {P : Program} {S : TypeId} {w w' : World} {ops : Array Oper} {rest : List Oper} {o : Oper} {a : Act} {Q : Exit → Act → World → Prop} (hgd : o.guard = none) (s x : Operand)
    (ho : o.op = .call { callee := .builtin .append, args := #[s, x], argTypes := #[S, S] }) {v1 v2 v : Value} (hs : a.eval s = v1) (hx : a.eval x = v2) (hrun : (Builtin.append_ #[S, S] o.type #[v1, v2]).run P w = .ok v w') (h : wpList P ops Q rest (a.put o.dst v) w') :
    wpList P ops Q (o :: rest) a w := by
  refine wpList_plain hgd fun K hK' => ?_
  unfold Oper.wp execOp
  simp only [ho, resolve, invoke, builtin, Sem.run_bind, Sem.run_pure, Result.andThen_ok, List.map_toArray, List.map_cons, List.map_nil, hs, hx, hrun]
  exact hK' _ _ h
theorem set_has {fs : List Fl} (hg : GOk fs) {l : List Lt} (hl : ∀ y ∈ l, hasF fs y = true) : ∀ s ∈ setS l, hasF fs s = true := fun s hs => by
  have hc := (setS_facts (l := l) fun y hy => (hasF_iff.1 (hl y hy)).1).1
  refine (poss_units hg (hc.pos s hs) fun u hu => ?_).2
  obtain ⟨y, hy, hu⟩ := mem_U.1 (mem_setS.1 (mem_U.2 ⟨s, hs, hu⟩))
  exact hasF_units (hl y hy) u hu
theorem ids_push {w1 W V : World} {B mb km : Nat} {f : Int → Option Value} {F : Int → LR} {Ai : Option Addr} {ni ci : Nat} {ids : List Int} (hB : B = w1.heap.size) (hE1 : E w1 W) (hF : FamL W B mb km f (fun _ => True) F (fun b => ob Ai = some b)) (hO : Own .i64 3 W B Ai ni ci ids) (hE : E W V) (b2 : Nat) (i : Int) (hi : (Lit.int .i64 i).wf = true) (hb2 : V.cell? ⟨b2, 0, none⟩ = some (.int .i64 i)) (hn : ni ≤ 1000000) (ty : TypeId) :
    ∃ A' c' V1, (Builtin.append_ #[22, 22] ty #[.slice Ai ni ci, .slice (some ⟨b2, 0, none⟩) 1 1]).run Tryz.prog V = .ok (.slice A' (ni + 1) c') V1 ∧ E w1 V1 ∧ FamL V1 B mb km f (fun _ => True) F (fun b => ob A' = some b) ∧ Own .i64 3 V1 B A' (ni + 1) c' (ids ++ [i]) ∧ Ex (fun j => ob Ai = some j) V V1 ∧ ∀ b, ob A' = some b → ob Ai = some b ∨ V.heap.size ≤ b := by
  have hN : Nums .i64 V (some ⟨b2, 0, none⟩) 1 1 [i] :=
    ⟨rfl, Nat.le_refl _, by unfold maxLen; omega, by intro y hy; rw [List.mem_singleton] at hy; subst hy; exact hi, fun _ => ⟨b2, 0, rfl, World.block_lt_of_cell? V _ hb2, fun j hj => by
      have : j = 0 := by simpa using hj
      subst this; exact hb2⟩⟩
  have hOV := hO.e hE
  obtain ⟨A', c', V1, hrun, hO1, hG, hor⟩ := run_appN intTk V ty B Ai ni ci ids hOV _ 1 1 [i] hN (by omega) (by rw [hB]; exact (hE1.trans hE).le)
  rw [ob_eq] at hG
  rw [ob_eq, ob_eq] at hor
  have hX1 : Ex (fun j => ob Ai = some j) V V1 := ⟨hG.os, hG.tape, hG.output, hG.size, fun j hj hx => hG.block j hj (fun e => hx e.symm)⟩
  refine ⟨A', c', V1, hrun, e_ex (hE1.trans hE) hX1 (fun j hj => by have := (hO.ltN j hj).1; omega), ?_, hO1, hX1, fun b hb => ?_⟩
  rotate_left 1
  · rcases hor with e | e
    · rw [e] at hb; exact .inl hb
    · rw [e] at hb; injection hb with hb; exact .inr (by omega)
  have h2 := (hF.e hE).z (Z' := fun b => ob Ai = some b ∨ V.heap.size ≤ b) (fun j hj => hj)
  refine (h2.ex hX1 (fun j hj => .inl (.inl hj))).z (fun j hj => ?_)
  rcases hor with e | e
  · rw [e] at hj; exact .inl (.inl hj)
  · rw [e] at hj; injection hj with hj; exact .inl (.inr (by omega))
theorem FamL.del {w w' : World} {base mb km : Nat} {f : Int → Option Value} {P : Int → Prop} {F : Int → LR} {Z : Nat → Prop} (h : FamL w base mb km f P F Z) (i : Int) (hM : MapD w' mb km (fun y => if y = i then none else f y)) (hG : w.grownBy w' (some mb)) :
    FamL w' base mb km (fun y => if y = i then none else f y) P (updI F i noR) Z ∧ Ex (fun j => j = mb) w w' := by
  have hX : Ex (fun j => j = mb) w w' := ⟨hG.os, hG.tape, hG.output, hG.size, fun j hj hx => hG.block j hj (fun e => hx (by injection e))⟩
  refine ⟨⟨hM, h.bl, fun j hj => ?_, fun j hj => ?_, fun j k hj hk hne => ?_, fun j hj b hb => ?_⟩, hX⟩
  · by_cases e : j = i
    · rw [if_pos e, e, updI_same]; rfl
    · rw [if_neg e, updI_ne _ _ e]; exact h.at_ j hj
  · by_cases e : j = i
    · rw [e, updI_same]; exact OwnL.nil _ _
    · rw [updI_ne _ _ e]; exact (h.rows j hj).ex hX (fun b hb x => h.map.notLot (x ▸ ((h.rows j hj).lotB hb).2))
  · by_cases e : j = i
    · rw [e, updI_same]; intro b hb; cases hb
    · rw [updI_ne _ _ e]
      by_cases e2 : k = i
      · rw [e2, updI_same]; intro b _ hb; cases hb
      · rw [updI_ne _ _ e2]; exact h.ap j k hj hk hne
  · by_cases e : j = i
    · rw [e, updI_same] at hb; cases hb
    · rw [updI_ne _ _ e] at hb; exact h.off j hj b hb
theorem flat_take {α β : Type} (h : α → List β) (S : List α) (a : Nat) : ((S.take a).flatMap h).length ≤ (S.flatMap h).length := by
  conv => rhs; rw [← List.take_append_drop a S]
  rw [List.flatMap_append, List.length_append]; omega
theorem flat_take2 {α β : Type} (h : α → List β) {S : List α} {a : Nat} {s : α} (hs : S[a]? = some s) (b : Nat) : ((S.take a).flatMap h ++ (h s).take b).length ≤ (S.flatMap h).length := by
  have h1 := flat_take h S (a + 1)
  rw [take_snoc hs, List.flatMap_append, List.length_append] at h1
  simp only [List.flatMap_cons, List.flatMap_nil, List.append_nil] at h1
  rw [List.length_append, List.length_take]; omega
structure AnI (B : Nat) (w1 wr : World) (fs : List Fl) (ord : List Nat) (m K0 : Nat) (G : Nat → List Lt) (L : List Lt) (mb km : Nat) (f : Int → Option Value) (F : Int → LR) (Z : Nat → Prop) : Prop where
  e : E w1 wr
  b : B = w1.heap.size
  fam : FamL wr B mb km f (fun _ => True) F Z
  vals : ∀ (k q : Nat), k < m → ord[k]? = some q → (F (q : Int)).1 = addG fs G L q
  cnt : km ≤ K0 + L.length
section
variable {B : Nat} {w1 wr V : World} {fs : List Fl} {ord : List Nat} {m K0 : Nat} {G : Nat → List Lt} {L : List Lt} {mb km : Nat} {f : Int → Option Value} {F : Int → LR} {Z : Nat → Prop}
theorem AnI.e_ (h : AnI B w1 wr fs ord m K0 G L mb km f F Z) (hE : E wr V) : AnI B w1 V fs ord m K0 G L mb km f F Z := ⟨h.e.trans hE, h.b, h.fam.e hE, h.vals, h.cnt⟩
theorem AnI.z {Z' : Nat → Prop} (h : AnI B w1 wr fs ord m K0 G L mb km f F Z) (hZ : ∀ j, Z' j → Z j ∨ wr.heap.size ≤ j) : AnI B w1 wr fs ord m K0 G L mb km f F Z' := ⟨h.e, h.b, h.fam.z hZ, h.vals, h.cnt⟩
theorem FamL.len (h : FamL wr B mb km f (fun _ => True) F Z) (i : Int) : (F i).2.2.1 = (F i).1.length := (h.rows i trivial).1.symm
theorem addG_len (fs : List Fl) (G : Nat → List Lt) (L : List Lt) (q : Nat) : (addG fs G L q).length ≤ (G q).length + L.length := by
  rw [addG, List.length_append]
  have := List.length_filter_le (fun y => posF fs y.1 == some q) L
  omega
theorem AnI.add (h : AnI B w1 wr fs ord m K0 G L mb km f F Z) (hnd : ord.Nodup) {y : Lt} (hy : WfL y) {q kq : Nat} (hq : posF fs y.1 = some q) (hkq : kq < m) (hoq : ord[kq]? = some q) (hqn : q ≤ 1000000) (hG : (G q).length ≤ 1000000) (hL : L.length ≤ 1000000) (hK : K0 ≤ 1000000) (hE : E wr V) (hZV : ¬ Z V.heap.size) (A2 : Option Addr) (c2 : Nat) (hr : LotsAt V A2 1 c2 [y]) (ty : TypeId) :
    ∃ rA rn rc A' c' W1 W2, (∀ W, E wr W → (Instr.lookup 113 (.map (some mb)) (.int .i64 (q : Int)) false).run Tryz.prog W = .ok (.slice rA rn rc) W) ∧
      (Builtin.append_ #[41, 41] ty #[.slice rA rn rc, .slice A2 1 c2]).run Tryz.prog V = .ok (.slice A' (rn + 1) c') W1 ∧
      (Instr.mapUpdate 113 (.map (some mb)) (.int .i64 (q : Int)) (.slice A' (rn + 1) c')).run Tryz.prog W1 = .ok () W2 ∧
      (∃ f' F', AnI B w1 W2 fs ord m K0 G (L ++ [y]) mb (km + 1) f' F' Z) ∧ Ex (fun j => B ≤ j ∧ ¬ Z j) wr W1 ∧ Ex (fun j => B ≤ j ∧ ¬ Z j) wr W2 := by
  have hwq : (Lit.int .i64 (q : Int)).wf = true := wf_of_i64 (by omega) (by omega)
  have hlen : (F (q : Int)).2.2.1 ≤ 2000000 := by
    rw [h.fam.len, h.vals kq q hkq hoq]
    have := addG_len fs G L q
    omega
  obtain ⟨A', c', W1, W2, hrun, hrun2, hF, hX2, hX1, _⟩ := h.fam.add (i := (q : Int)) trivial hwq (by have := h.cnt; unfold maxLen; omega) (by rw [h.b]; exact h.e.le) hE hZV A2 1 c2 [y] hr (by omega) ty
  refine ⟨(F (q : Int)).2.1, (F (q : Int)).2.2.1, (F (q : Int)).2.2.2, A', c', W1, W2, fun W hW => (h.fam.e hW).look trivial hwq, hrun, hrun2, ⟨_, _, ⟨?_, h.b, hF, fun k p hk hp => ?_, ?_⟩⟩, hX1, hX2⟩
  · exact (Ex.of_e (X := fun _ => False) h.e).trans (Z := fun j => B ≤ j ∧ ¬ Z j) hX2 (fun _ _ x => x.elim) (fun _ _ x => x) |>.e (fun i hi => by have := h.b; omega)
  · rw [addG_snoc fs G L y hq]
    by_cases e : p = q
    · subst e
      rw [updI_same, if_pos rfl, h.vals k p hk hp]
    · rw [updI_ne _ _ (by omega), if_neg e, h.vals k p hk hp]
  · rw [List.length_append, List.length_singleton]
    have := h.cnt
    omega
end
structure AnO (B Bd : Nat) (w1 wr : World) (fs : List Fl) (ord : List Nat) (x : Lt) (m : Nat) (G : Nat → List Lt) (ids : List Int) (mb km : Nat) (f : Int → Option Value) (F : Int → LR) (Ai : Option Addr) (ni ci : Nat) : Prop where
  e : E w1 wr
  b : B = w1.heap.size
  fam : FamL wr B mb km f (fun _ => True) F (fun b => ob Ai = some b)
  vals : ∀ (k q : Nat), k < m → ord[k]? = some q → (F (q : Int)).1 = G q
  own : Own .i64 3 wr B Ai ni ci ids
  st : AncSt fs ord x m G ids
  le : m ≤ ord.length
  gl : ∀ q, (G q).length ≤ 1 + (ord.length - m) * Bd
  cnt : km ≤ 1 + (ord.length - m) * Bd
  il : ids.length ≤ ord.length - m
section
variable {B Bd : Nat} {w1 wr V : World} {fs : List Fl} {ord : List Nat} {x : Lt} {m mb km ni ci : Nat} {G : Nat → List Lt} {ids : List Int} {f : Int → Option Value} {F : Int → LR} {Ai : Option Addr}
theorem AnO.e_ (h : AnO B Bd w1 wr fs ord x m G ids mb km f F Ai ni ci) (hE : E wr V) : AnO B Bd w1 V fs ord x m G ids mb km f F Ai ni ci :=
  ⟨h.e.trans hE, h.b, h.fam.e hE, h.vals, h.own.e hE, h.st, h.le, h.gl, h.cnt, h.il⟩
theorem AnO.skip (h : AnO B Bd w1 wr fs ord x (m + 1) G ids mb km f F Ai ni ci) {p : Nat} (hm : ord[m]? = some p) (h0 : G p = []) : AnO B Bd w1 wr fs ord x m G ids mb km f F Ai ni ci := by
  have hle := h.le
  have hmul : (ord.length - (m + 1)) * Bd ≤ (ord.length - m) * Bd := Nat.mul_le_mul_right _ (by omega)
  exact ⟨h.e, h.b, h.fam, fun k q hk hq => h.vals k q (by omega) hq, h.own, h.st.skip hm h0, by omega, fun q => by have := h.gl q; omega, by have := h.cnt; omega, by have := h.il; omega⟩
theorem AnO.step {w2 : World} {mb2 km2 : Nat} {f2 : Int → Option Value} {F2 : Int → LR} {Ai2 : Option Addr} {ni2 ci2 K0 : Nat} {L : List Lt} (h : AnO B Bd w1 wr fs ord x (m + 1) G ids mb km f F Ai ni ci) (hg : GOk fs) (hT : Topo fs ord) {p : Nat} {fl : Fl} (hm : ord[m]? = some p) (hf : fs[p]? = some fl) (hne : G p ≠ []) (hL : L = stepL fs fl (G p))
    (hLn : L.length ≤ Bd) (hE : E w1 w2) (hF : FamL w2 B mb2 km2 f2 (fun _ => True) F2 (fun b => ob Ai2 = some b)) (hv : ∀ (k q : Nat), k < m → ord[k]? = some q → (F2 (q : Int)).1 = addG fs G L q) (hO : Own .i64 3 w2 B Ai2 ni2 ci2 (ids ++ [fl.id])) (hc : km2 ≤ km + L.length) :
    AnO B Bd w1 w2 fs ord x m (addG fs G L) (ids ++ [fl.id]) mb2 km2 f2 F2 Ai2 ni2 ci2 := by
  subst hL
  have hle := h.le
  have hmul : (ord.length - m) * Bd = (ord.length - (m + 1)) * Bd + Bd := by rw [show ord.length - m = (ord.length - (m + 1)) + 1 by omega, Nat.add_mul, Nat.one_mul]
  refine ⟨hE, h.b, hF, hv, hO, h.st.step hg hT hm hf hne, by omega, fun q => ?_, by have := h.cnt; omega, ?_⟩
  · have h1 := addG_len fs G (stepL fs fl (G p)) q
    have h2 := h.gl q
    omega
  · rw [List.length_append, List.length_singleton]; have := h.il; omega
end
end Go.Proofs.YtmeplpiamkaniaaGreat
namespace Go.Proofs.YtmeplpiamkaniaaGreat
set_option linter.unusedVariables false
set_option linter.unusedSimpArgs false
open Go.RowKit Go.Sort
def LaterOf (fs : List Fl) (S0 l : List Lt) : Prop :=
  (validB S0 = true ∧ (∀ x ∈ S0, hasF fs x = true) ∧ LatL fs (fun u => u ∈ U S0) l) ∨ (¬ (validB S0 = true ∧ ∀ x ∈ S0, hasF fs x = true) ∧ l = [])
theorem LaterOf.eq {fs : List Fl} {S0 a b : List Lt} (h : LaterOf fs S0 a) (k : LaterOf fs S0 b) : a = b := by
  rcases h with ⟨h1, h2, h3⟩ | ⟨h1, h2⟩ <;> rcases k with ⟨k1, k2, k3⟩ | ⟨k1, k2⟩
  · exact h3.eq k3
  · exact absurd ⟨h1, h2⟩ k1
  · exact absurd ⟨k1, k2⟩ h1
  · rw [h2, k2]
structure LaSt (fs : List Fl) (ord : List Nat) (S : Un → Prop) (k : Nat) (G : Int → List Lt) : Prop where
  own : ∀ i, ∀ x ∈ G i, x.1 = i
  snd : ∀ i u, u ∈ U (G i) → Lat fs S u
  base : ∀ u, S u → u ∈ U (G u.1)
  can : ∀ i, Canon (G i)
  thr : ∀ k' p f, k' < k → ord[k']? = some p → fs[p]? = some f → ∀ u, u.1 = f.id → Lat fs S u → u ∈ U (G f.id)
theorem canon_filter {l : List Lt} (h : Canon l) (p : Lt → Bool) : Canon (l.filter p) :=
  ⟨fun x hx => h.pos x (List.mem_filter.1 hx).1, h.gap.filter p⟩
theorem U_filter {l : List Lt} {i : Int} {u : Un} : u ∈ U (l.filter fun x => x.1 == i) ↔ u ∈ U l ∧ u.1 = i := by
  rw [mem_U, mem_U]
  constructor
  · rintro ⟨x, hx, hu⟩
    obtain ⟨h1, h2⟩ := List.mem_filter.1 hx
    exact ⟨⟨x, h1, hu⟩, by rw [(mem_ul.1 hu).1]; simpa using h2⟩
  · rintro ⟨⟨x, hx, hu⟩, e⟩
    exact ⟨x, List.mem_filter.2 ⟨hx, by rw [← (mem_ul.1 hu).1, e]; simp⟩, hu⟩
section
variable {fs : List Fl} {ord : List Nat} {S : Un → Prop} {k : Nat} {G : Int → List Lt}
theorem LaSt.begin {T : List Lt} (hc : Canon T) (hST : ∀ u, S u ↔ u ∈ U T) (ord : List Nat) : LaSt fs ord S 0 (fun i => T.filter fun x => x.1 == i) :=
  ⟨fun i x hx => by simpa using (List.mem_filter.1 hx).2, fun i u hu => .base ((hST u).2 (U_filter.1 hu).1), fun u hu => U_filter.2 ⟨(hST u).1 hu, rfl⟩, fun i => canon_filter hc _, fun k' _ _ hk => by omega⟩
theorem LaSt.first (h : LaSt fs ord S k G) {f : Fl} : FInv fs S f 0 (G f.id) :=
  ⟨h.own f.id, h.snd f.id, fun u hu e => by rw [← e]; exact h.base u hu, fun u v _ hs _ hlt => by
    have := srcU_nn hs
    rw [List.take_zero, totL_nil] at hlt
    omega⟩
theorem LaSt.ref (h : LaSt fs ord S k G) (hg : GOk fs) (hT : Topo fs ord) {p : Nat} {f : Fl} (hp : ord[k]? = some p) (hf : fs[p]? = some f) {j : Int} (hj : j ∈ refsF f) : ∀ u, u.1 = j → (u ∈ U (G j) ↔ Lat fs S u) := by
  obtain ⟨q, hq⟩ := hg.refs (List.mem_of_getElem? hf) hj
  obtain ⟨m, hm, hfm⟩ := pos_of_get hq
  obtain ⟨m', hm', hmk⟩ := hT.topo k p f hp hf j hj
  rw [hm] at hm'
  injection hm' with hm'
  subst hm'
  obtain ⟨k', hk'l, hkm'⟩ := List.getElem_of_mem hmk
  rw [List.getElem_take] at hkm'
  rw [List.length_take] at hk'l
  have hk' : k' < k := by omega
  have hkm : ord[k']? = some m := by rw [← hkm']; exact List.getElem?_eq_getElem (by omega)
  have hqi := (getF_some hq).2
  subst hqi
  exact fun u e => ⟨h.snd _ u, fun hu => h.thr k' m q hk' hkm hfm u e hu⟩
theorem LaSt.none_ (h : LaSt fs ord S k G) (hg : GOk fs) (hT : Topo fs ord) {p : Nat} {f : Fl} (hp : ord[k]? = some p) (hf : fs[p]? = some f) {i : Nat} {x : Lt} (hi : f.parts[i]? = some x) {l : List Lt} (hl : FInv fs S f i l) (h0 : G x.1 = []) : FInv fs S f (i + 1) l := by
  have hgf := (hg.ids.get hf).2
  have hpos : ∀ x ∈ f.parts, 1 ≤ x.2.2 := fun y hy => (possB_iff.1 ((validB_iff.1 (okF_iff.1 (hg.ok f (List.mem_of_getElem? hf))).1).2 y hy)).2.2.2.1
  have := hl.part hgf hpos hi (ins := []) (fun u => ⟨fun hu => (by cases hu), fun ⟨h1, h2⟩ => by
    have := (h.ref hg hT hp hf (List.mem_append_left _ (List.mem_map.2 ⟨x, List.mem_of_getElem? hi, rfl⟩)) u (mem_ul.1 h1).1).2 h2
    rw [h0] at this
    exact this⟩) (fun _ h => by cases h)
  simpa using this
theorem LaSt.piece (h : LaSt fs ord S k G) (hg : GOk fs) (hT : Topo fs ord) {p : Nat} {f : Fl} (hp : ord[k]? = some p) (hf : fs[p]? = some f) {i : Nat} {x : Lt} (hi : f.parts[i]? = some x) {l : List Lt} (hl : FInv fs S f i l) :
    FInv fs S f (i + 1) (l ++ (glue (inU (G x.1) (U [x]))).map (shL f.id (totL (f.parts.take i)) x)) := by
  have hgf := (hg.ids.get hf).2
  have hpos : ∀ x ∈ f.parts, 1 ≤ x.2.2 := fun y hy => (possB_iff.1 ((validB_iff.1 (okF_iff.1 (hg.ok f (List.mem_of_getElem? hf))).1).2 y hy)).2.2.2.1
  have hU : ∀ u, u ∈ U (glue (inU (G x.1) (U [x]))) ↔ u ∈ ul x ∧ Lat fs S u := fun u => by
    rw [U_glue, mem_inU, U_one]
    constructor
    · rintro ⟨h1, h2⟩
      exact ⟨h1, h.snd _ u h2⟩
    · rintro ⟨h1, h2⟩
      exact ⟨h1, (h.ref hg hT hp hf (List.mem_append_left _ (List.mem_map.2 ⟨x, List.mem_of_getElem? hi, rfl⟩)) u (mem_ul.1 h1).1).2 h2⟩
  refine hl.part hgf hpos hi hU (fun y hy => ?_)
  have hy1 := (glue_glued (inU (G x.1) (U [x]))).mem y hy
  have := (hU (y.1, y.2.1)).1 (mem_U.2 ⟨y, hy, mem_ul.2 ⟨rfl, by simp only; omega, by simp only; omega⟩⟩)
  exact (mem_ul.1 this.1).1
theorem pos_units {fs : List Fl} (hg : GOk fs) {l : List Lt} (h1 : ∀ x ∈ l, 1 ≤ x.2.2) (h2 : ∀ u ∈ U l, InG fs u) : ∀ x ∈ l, possB x = true ∧ hasF fs x = true := fun x hx =>
  poss_units hg (h1 x hx) fun u hu => h2 u (mem_U.2 ⟨x, hx, hu⟩)
theorem LaSt.step (h : LaSt fs ord S k G) (hg : GOk fs) {p : Nat} {f : Fl} (hp : ord[k]? = some p) (hf : fs[p]? = some f) {l : List Lt} (hl : FInv fs S f f.parts.length l) (hpo : ∀ y ∈ l, possB y = true) :
    LaSt fs ord S (k + 1) (fun i => if i = f.id then setS l else G i) := by
  have hgf := (hg.ids.get hf).2
  have hall := hl.all hg hgf
  have hset : ∀ u, u ∈ U (setS l) ↔ u.1 = f.id ∧ Lat fs S u := fun u => by rw [mem_setS]; exact hall u
  have hcan : Canon (setS l) := (setS_facts hpo).1
  refine ⟨fun i x hx => ?_, fun i u hu => ?_, fun u hu => ?_, fun i => ?_, fun k' p' f' hk' hp' hf' u hu hlat => ?_⟩
  · by_cases e : i = f.id
    · rw [if_pos e] at hx
      have h1 := hcan.pos x hx
      rw [e]
      exact ((hset (x.1, x.2.1)).1 (mem_U.2 ⟨x, hx, mem_ul.2 ⟨rfl, by simp only; omega, by simp only; omega⟩⟩)).1
    · rw [if_neg e] at hx; exact h.own i x hx
  · by_cases e : i = f.id
    · rw [if_pos e] at hu; exact ((hset u).1 hu).2
    · rw [if_neg e] at hu; exact h.snd i u hu
  · by_cases e : u.1 = f.id
    · rw [if_pos e]; exact (hset u).2 ⟨e, .base hu⟩
    · rw [if_neg e]; exact h.base u hu
  · by_cases e : i = f.id
    · rw [if_pos e]; exact hcan
    · rw [if_neg e]; exact h.can i
  · by_cases e : f'.id = f.id
    · rw [if_pos e]; exact (hset u).2 ⟨hu.trans e, hlat⟩
    · rw [if_neg e]
      refine h.thr k' p' f' ?_ hp' hf' u hu hlat
      rcases Nat.lt_or_ge k' k with hlt | hge
      · exact hlt
      · have : k' = k := by omega
        subst this
        rw [hp] at hp'
        injection hp' with hp'
        subst hp'
        rw [hf] at hf'
        injection hf' with hf'
        exact absurd (by rw [hf']) e
theorem LaSt.done (h : LaSt fs ord S ord.length G) (hg : GOk fs) (hT : Topo fs ord) (hS : ∀ u, S u → InG fs u) : ∀ i u, u ∈ U (G i) ↔ u.1 = i ∧ Lat fs S u := by
  intro i u
  refine ⟨fun hu => ⟨?_, h.snd i u hu⟩, fun ⟨e, hu⟩ => ?_⟩
  · obtain ⟨x, hx, hu⟩ := mem_U.1 hu
    rw [(mem_ul.1 hu).1]; exact h.own i x hx
  · obtain ⟨f, hf, _⟩ := hu.inG hg hS
    obtain ⟨p, hp, hfp⟩ := pos_of_get hf
    obtain ⟨k, hk⟩ := List.getElem?_of_mem (nodup_all hT.nd hT.lt hT.ln p (List.getElem?_eq_some_iff.1 hfp).1)
    have hid := (getF_some hf).2
    have := h.thr k p f (List.getElem?_eq_some_iff.1 hk).1 hk hfp u hid.symm hu
    rw [hid, e] at this
    exact this
theorem gap_row (h : LaSt fs ord S k G) {ks : List Int} (hk : ks.Nodup) : (ks.flatMap G).Pairwise fun x y => x.1 ≠ y.1 ∨ gapL x y ∨ gapL y x := by
  rw [List.pairwise_flatMap]
  refine ⟨fun i _ => (h.can i).gap.imp fun hg => .inr (.inl hg), hk.imp fun {i j} hij x hx y hy => .inl ?_⟩
  rw [h.own i x hx, h.own j y hy]; exact hij
theorem LaSt.pos1 (h : LaSt fs ord S k G) {ks : List Int} : ∀ x ∈ ks.flatMap G, 1 ≤ x.2.2 := fun x hx => by
  obtain ⟨i, _, hx⟩ := List.mem_flatMap.1 hx
  exact (h.can i).pos x hx
theorem U_flat {ks : List Int} {G : Int → List Lt} {u : Un} : u ∈ U (ks.flatMap G) ↔ ∃ i ∈ ks, u ∈ U (G i) := by
  rw [mem_U]
  constructor
  · rintro ⟨x, hx, hu⟩
    obtain ⟨i, hi, hx⟩ := List.mem_flatMap.1 hx
    exact ⟨i, hi, mem_U.2 ⟨x, hx, hu⟩⟩
  · rintro ⟨i, hi, hu⟩
    obtain ⟨x, hx, hu⟩ := mem_U.1 hu
    exact ⟨x, List.mem_flatMap.2 ⟨i, hi, hx⟩, hu⟩
theorem LaSt.len (h : LaSt fs ord S k G) (hg : GOk fs) (hS : ∀ u, S u → InG fs u) {ks : List Int} (hk : ks.Nodup) : (ks.flatMap G).length ≤ cntU fs := by
  have hp := h.pos1 (ks := ks)
  have h1 : ((ks.flatMap G).map fun x => (x.1, x.2.1)).Nodup := by
    rw [List.Nodup, List.pairwise_map]
    refine List.Pairwise.imp_of_mem (fun {x y} hx hy hxy e => ?_) (gap_row h hk)
    have hx1 := hp x hx
    have hy1 := hp y hy
    simp only [Prod.mk.injEq] at e
    unfold gapL at hxy
    omega
  have h2 := nodup_le (b := allU fs) h1 (fun u hu => by
    obtain ⟨x, hx, rfl⟩ := List.mem_map.1 hu
    have hx1 := hp x hx
    obtain ⟨i, hi, hx⟩ := List.mem_flatMap.1 hx
    exact mem_allU (Lat.inG hg hS (h.snd i _ (mem_U.2 ⟨x, hx, mem_ul.2 ⟨rfl, by simp only; omega, by simp only; omega⟩⟩))))
  rwa [List.length_map] at h2
theorem LaSt.row_len (h : LaSt fs ord S k G) (hg : GOk fs) (hS : ∀ u, S u → InG fs u) (i : Int) : (G i).length ≤ cntU fs := by
  have := h.len hg hS (ks := [i]) (by simp)
  simpa using this
theorem LaSt.join (h : LaSt fs ord S ord.length G) (hg : GOk fs) (hT : Topo fs ord) (hS : ∀ u, S u → InG fs u) {ks : List Int} (hk : ks.Nodup) (hall : ∀ i, G i ≠ [] → i ∈ ks) {l : List Lt} (hp : l.Perm (ks.flatMap G)) (hs : l.Pairwise fun x y => ltOf cmpL y x = false) : LatL fs S l := by
  have hpos : ∀ x ∈ l, 1 ≤ x.2.2 := fun x hx => h.pos1 x (hp.mem_iff.1 hx)
  have hgap : l.Pairwise fun x y => x.1 ≠ y.1 ∨ gapL x y ∨ gapL y x := (hp.pairwise_iff (fun {x y} hxy => by
    rcases hxy with e | e | e
    · exact .inl (fun e' => e e'.symm)
    · exact .inr (.inr e)
    · exact .inr (.inl e))).2 (gap_row h hk)
  refine ⟨canon_of ((hgap.and hs).imp_of_mem fun {x y} hx hy hh => ?_) hpos, fun u => ?_⟩
  · obtain ⟨h1, h2⟩ := hh
    have hx1 := hpos x hx
    have hy1 := hpos y hy
    rw [Bool.eq_false_iff, ne_eq, cmpL_lt] at h2
    unfold gapL at h1
    omega
  · rw [perm_U hp, U_flat]
    constructor
    · rintro ⟨i, _, hu⟩; exact h.snd i u hu
    · intro hu
      have := (h.done hg hT hS u.1 u).2 ⟨rfl, hu⟩
      exact ⟨u.1, hall _ (fun e => by rw [e] at this; cases this), this⟩
end
end Go.Proofs.YtmeplpiamkaniaaGreat
namespace Go.Proofs.YtmeplpiamkaniaaGreat
set_option linter.unusedVariables false
set_option linter.unusedSimpArgs false
open Go.RowKit
structure LaM (B : Nat) (w1 wr : World) (G : Int → List Lt) (mb km : Nat) (f : Int → Option Value) (F : Int → LR) (Z : Nat → Prop) : Prop where
  e : E w1 wr
  b : B = w1.heap.size
  fam : FamL wr B mb km f (fun _ => True) F Z
  vals : ∀ i, (F i).1 = G i
structure LaF (B : Nat) (w1 wr : World) (G : Int → List Lt) (fid : Int) (mb km : Nat) (f : Int → Option Value) (F : Int → LR) (Z : Nat → Prop) (A : Option Addr) (n c : Nat) (l : List Lt) : Prop where
  e : E w1 wr
  b : B = w1.heap.size
  fam : FamL wr B mb km f (fun j => j ≠ fid) F (fun b => ob A = some b)
  vals : ∀ i, (F i).1 = G i
  at_ : (f fid).getD (.slice none 0 0) = slV (F fid)
  own : OwnL wr B A n c l
  off : ∀ b, ob A = some b → ¬ Z b
  pos : ∀ y ∈ l, possB y = true
  emp : n = 0 → (F fid).2 = (A, n, c)
  pre : (G fid).length ≤ n
section
variable {B mb km : Nat} {w1 wr V : World} {G : Int → List Lt} {fid : Int} {f : Int → Option Value} {F : Int → LR} {Z : Nat → Prop} {A : Option Addr} {n c : Nat} {l : List Lt}
theorem LaM.z {Z' : Nat → Prop} (h : LaM B w1 wr G mb km f F Z) (hZ : ∀ j, Z' j → Z j ∨ wr.heap.size ≤ j) : LaM B w1 wr G mb km f F Z' := ⟨h.e, h.b, h.fam.z hZ, h.vals⟩
theorem LaM.e_ (h : LaM B w1 wr G mb km f F Z) (hE : E wr V) : LaM B w1 V G mb km f F Z := ⟨h.e.trans hE, h.b, h.fam.e hE, h.vals⟩
theorem LaF.e_ (h : LaF B w1 wr G fid mb km f F Z A n c l) (hE : E wr V) : LaF B w1 V G fid mb km f F Z A n c l := ⟨h.e.trans hE, h.b, h.fam.e hE, h.vals, h.at_, h.own.e hE, h.off, h.pos, h.emp, h.pre⟩
theorem LaF.z {Z' : Nat → Prop} (h : LaF B w1 wr G fid mb km f F Z A n c l) (hZ : ∀ j, Z' j → Z j ∨ wr.heap.size ≤ j) : LaF B w1 wr G fid mb km f F Z' A n c l :=
  ⟨h.e, h.b, h.fam, h.vals, h.at_, h.own, fun b hb hz => (hZ b hz).elim (h.off b hb) (fun x => by have := (h.own.ltN b hb).2; omega), h.pos, h.emp, h.pre⟩
theorem LaM.add (h : LaM B w1 wr G mb km f F Z) {y : Lt} (hy : WfL y) (hG : (G y.1).length ≤ 1000000) (hk : km ≤ 1000000) (hE : E wr V) (hZV : ¬ Z V.heap.size) (A2 : Option Addr) (c2 : Nat) (hr : LotsAt V A2 1 c2 [y]) (ty : TypeId) :
    ∃ rA rn rc A' c' W1 W2, (∀ W, E wr W → (Instr.lookup 113 (.map (some mb)) (.int .i64 y.1) false).run Tryz.prog W = .ok (.slice rA rn rc) W) ∧
      (Builtin.append_ #[41, 41] ty #[.slice rA rn rc, .slice A2 1 c2]).run Tryz.prog V = .ok (.slice A' (rn + 1) c') W1 ∧
      (Instr.mapUpdate 113 (.map (some mb)) (.int .i64 y.1) (.slice A' (rn + 1) c')).run Tryz.prog W1 = .ok () W2 ∧
      (∃ f' F', LaM B w1 W2 (fun i => if i = y.1 then G i ++ [y] else G i) mb (km + 1) f' F' Z) ∧ Ex (fun j => B ≤ j ∧ ¬ Z j) wr W1 ∧ Ex (fun j => B ≤ j ∧ ¬ Z j) wr W2 := by
  have hlen : (F y.1).2.2.1 ≤ 1000000 := by rw [h.fam.len, h.vals]; exact hG
  obtain ⟨A', c', W1, W2, hrun, hrun2, hF, hX2, hX1, _⟩ := h.fam.add (i := y.1) trivial hy.1 (by unfold maxLen; omega) (by rw [h.b]; exact h.e.le) hE hZV A2 1 c2 [y] hr (by omega) ty
  refine ⟨(F y.1).2.1, (F y.1).2.2.1, (F y.1).2.2.2, A', c', W1, W2, fun W hW => (h.fam.e hW).look trivial hy.1, hrun, hrun2, ⟨_, _, ⟨?_, h.b, hF, fun i => ?_⟩⟩, hX1, hX2⟩
  · exact e_ex h.e hX2 (fun i hi => by have := h.b; omega)
  · by_cases e : i = y.1
    · subst e; rw [updI_same, if_pos rfl, h.vals]
    · rw [updI_ne _ _ e, if_neg e, h.vals]
theorem LaM.out {Z0 : Nat → Prop} (h : LaM B w1 wr G mb km f F Z0) (fid : Int) (hZ : ∀ j, Z j → wr.heap.size ≤ j) (hp : ∀ y ∈ G fid, possB y = true) : LaF B w1 wr G fid mb km f F Z (F fid).2.1 (F fid).2.2.1 (F fid).2.2.2 (G fid) := by
  have ho := h.fam.rows fid trivial
  have hf := h.fam
  refine ⟨h.e, h.b, ⟨hf.map, ⟨hf.bl.1, fun e => hf.map.notLot (ho.lotB e).2⟩, fun i _ => hf.at_ i trivial, fun i _ => hf.rows i trivial, fun i j _ _ hne => hf.ap i j trivial trivial hne, fun i hi b hb e => hf.ap i fid trivial trivial hi b hb e⟩, h.vals, hf.at_ fid trivial, by have := h.vals fid; rw [this] at ho; exact ho, fun b hb hz => by have := (ho.ltN b hb).2; have := hZ b hz; omega, hp, fun _ => rfl, by rw [← h.vals fid, ho.1]; exact Nat.le_refl _⟩
theorem LaF.back (h : LaF B w1 wr G fid mb km f F Z A n c l) (h0 : n = 0) : LaM B w1 wr (fun i => if i = fid then setS l else G i) mb km f F (fun _ => False) := by
  have hf := h.fam
  have he := h.emp h0
  have hl : l = [] := List.eq_nil_of_length_eq_zero (by rw [h.own.1]; exact h0)
  have hg : G fid = [] := List.eq_nil_of_length_eq_zero (by have := h.pre; omega)
  have hv := h.vals fid
  rw [hg] at hv
  have ho : OwnL wr B (F fid).2.1 (F fid).2.2.1 (F fid).2.2.2 (F fid).1 := by rw [he, hv, ← hl]; exact h.own
  have hA : (F fid).2.1 = A := by rw [he]
  refine ⟨h.e, h.b, ⟨hf.map, ⟨hf.bl.1, fun x => x⟩, fun i _ => ?_, fun i _ => ?_, fun i j _ _ hne b hb hb' => ?_, fun _ _ _ _ x => x⟩, fun i => ?_⟩
  · by_cases e : i = fid
    · rw [e]; exact h.at_
    · exact hf.at_ i e
  · by_cases e : i = fid
    · rw [e]; exact ho
    · exact hf.rows i e
  · by_cases e : i = fid
    · rw [e, hA] at hb
      exact hf.off j (fun e' => hne (e.trans e'.symm)) b hb' hb
    · by_cases e' : j = fid
      · rw [e', hA] at hb'
        exact hf.off i e b hb hb'
      · exact hf.ap i j e e' hne b hb hb'
  · by_cases e : i = fid
    · rw [if_pos e, e, hv, hl]; rfl
    · rw [if_neg e]; exact h.vals i
theorem LaF.done (h : LaF B w1 wr G fid mb km f F Z A n c l) (hw : (Lit.int .i64 fid).wf = true) (hk : km ≤ 1000000) (hE : E wr V) {A' : Option Addr} {n' c' : Nat} (hO : OwnL V wr.heap.size A' n' c' (setS l)) :
    ∃ W, (Instr.mapUpdate 113 (.map (some mb)) (.int .i64 fid) (.slice A' n' c')).run Tryz.prog V = .ok () W ∧ (∃ f' F', LaM B w1 W (fun i => if i = fid then setS l else G i) mb (km + 1) f' F' (fun _ => False)) ∧ Ex (fun j => B ≤ j) wr W ∧ Ex (fun j => j = mb) V W := by
  have hf := h.fam.e hE
  have hB : B ≤ wr.heap.size := by rw [h.b]; exact h.e.le
  obtain ⟨W, hrun, hF, hX⟩ := hf.put fid hw (by unfold maxLen; omega) (setS l, A', n', c') (hO.rebase hB) (fun j hj hne b hb hb' => by
    have h1 := ((h.fam.rows j hj).ltN b hb).2
    have h2 := (hO.ltN b hb').1
    omega) (fun b hb e => by
    have h1 := (h.own.ltN b e).2
    have h2 := (hO.ltN b hb).1
    omega)
  have hXB : Ex (fun j => B ≤ j) wr W := (Ex.of_e (X := fun _ => False) hE).trans hX (fun _ _ x => x.elim) (fun j _ e => by subst e; exact hf.bl.1)
  refine ⟨W, hrun, ⟨_, _, ⟨e_ex h.e hXB (fun i hi => by have := h.b; omega), h.b, (hF.sub (fun j _ => ?_)).z (fun _ x => x.elim), fun i => ?_⟩⟩, hXB, hX⟩
  · by_cases e : j = fid
    · exact .inr e
    · exact .inl e
  · by_cases e : i = fid
    · rw [e, updI_same, if_pos rfl]
    · rw [updI_ne _ _ e, if_neg e]; exact h.vals i
theorem LaF.push (h : LaF B w1 wr G fid mb km f F Z A n c l) {y : Lt} (hy : possB y = true) (hn : n ≤ 1000000) (hE : E wr V) (hZV : ¬ Z V.heap.size) (A2 : Option Addr) (c2 : Nat) (hr : LotsAt V A2 1 c2 [y]) (ty : TypeId) :
    ∃ A' c' W, (Builtin.append_ #[41, 41] ty #[.slice A n c, .slice A2 1 c2]).run Tryz.prog V = .ok (.slice A' (n + 1) c') W ∧ LaF B w1 W G fid mb km f F Z A' (n + 1) c' (l ++ [y]) ∧ Ex (fun j => B ≤ j ∧ ¬ Z j) wr W := by
  have hB : B ≤ wr.heap.size := by rw [h.b]; exact h.e.le
  have hO := h.own.e hE
  obtain ⟨A', c', W, hrun, hO1, hG, hor⟩ := run_appL V ty B A n c l hO A2 1 c2 [y] hr (by omega) (Nat.le_trans hB hE.le)
  have hX1 : Ex (fun j => ob A = some j) V W := ⟨hG.os, hG.tape, hG.output, hG.size, fun j hj hx => hG.block j hj (fun e => hx e.symm)⟩
  have hXw : Ex (fun j => ob A = some j) wr W := (Ex.of_e hE).trans hX1 (fun _ _ x => x) (fun _ _ x => x)
  have hXB : Ex (fun j => B ≤ j ∧ ¬ Z j) wr W := hXw.mono fun j _ hj => ⟨(h.own.ltN j hj).1, h.off j hj⟩
  refine ⟨A', c', W, hrun, ⟨e_ex h.e hXB (fun i hi => by have := h.b; omega), h.b, ?_, h.vals, h.at_, hO1, fun b hb => ?_, fun z hz => ?_, fun e => by omega, by have := h.pre; omega⟩, hXB⟩
  · have h2 := (h.fam.e hE).z (Z' := fun b => ob A = some b ∨ V.heap.size ≤ b) (fun j hj => hj)
    refine (h2.ex hX1 (fun j hj => .inl (.inl hj))).z (fun j hj => ?_)
    rcases hor with e | e
    · rw [e] at hj; exact .inl (.inl hj)
    · rw [e] at hj; injection hj with hj; exact .inl (.inr (by omega))
  · rcases hor with e | e
    · rw [e] at hb; exact h.off b hb
    · rw [e] at hb; injection hb with hb; subst hb; exact hZV
  · rcases List.mem_append.1 hz with hz | hz
    · exact h.pos z hz
    · rw [List.mem_singleton] at hz; subst hz; exact hy
theorem filt_next {T : List Lt} {a : Nat} {y : Lt} (h : T[a]? = some y) : (fun i => if i = y.1 then ((T.take a).filter fun x => x.1 == i) ++ [y] else (T.take a).filter fun x => x.1 == i) = fun i => (T.take (a + 1)).filter fun x => x.1 == i := by
  funext i
  rw [take_snoc h, List.filter_append]
  by_cases e : i = y.1
  · rw [if_pos e, e]; simp
  · rw [if_neg e]
    have : (y.1 == i) = false := by simpa using fun h => e h.symm
    simp [this]
theorem piece_poss {fs : List Fl} {S : Un → Prop} {fl : Fl} {i : Nat} {l : List Lt} {ins : List Lt} {st : Int} {x : Lt} (hg : GOk fs) (hS : ∀ u, S u → InG fs u) (hl : FInv fs S fl i (l ++ ins.map (shL fl.id st x))) (hi : ∀ y ∈ ins, 1 ≤ y.2.2) : ∀ y ∈ ins, possB (shL fl.id st x y) = true := fun y hy => by
  refine (poss_units hg (by simpa [shL] using hi y hy) fun u hu => ?_).1
  refine (hl.sound u ?_).inG hg hS
  rw [U_app]
  exact List.mem_append_right _ (mem_U.2 ⟨_, List.mem_map.2 ⟨y, hy, rfl⟩, hu⟩)
theorem ins_len (s : List Lt) (x : Lt) : (glue (inU s (U [x]))).length ≤ x.2.2.toNat := by
  refine Nat.le_trans (glue_len_le _) ?_
  rw [U_one, ← ul_len]
  exact List.length_filter_le _ _
structure LaR (B r : Nat) (w1 wr : World) (G : Int → List Lt) (mb km : Nat) (f : Int → Option Value) (F : Int → LR) (left : Int → Bool) (cnt : Nat) (ks : List Int) (A : Option Addr) (n c : Nat) : Prop where
  e : E w1 wr
  b : B = w1.heap.size
  fam : FamL wr B mb km f (fun _ => True) F (fun b => ob A = some b)
  vals : ∀ i, (F i).1 = G i
  rng : RngD wr mb r km f left cnt
  own : OwnL wr B A n c (ks.flatMap G)
  rb : B ≤ r ∧ ∀ b, ob A = some b → b ≠ r
  nd : ks.Nodup
  gone : ∀ i ∈ ks, left i = false
  all : ∀ i, left i = false → f i ≠ none → i ∈ ks
theorem LaM.range {r cnt : Nat} (h : LaM B w1 wr G mb km f F Z) (hE : E wr V) (hr : RngD V mb r km f (fun x => (f x).isSome) cnt) (hB : B ≤ r) : LaR B r w1 V G mb km f F (fun x => (f x).isSome) cnt [] none 0 0 :=
  ⟨h.e.trans hE, h.b, (h.fam.e hE).z (fun j hj => by cases hj), h.vals, hr, OwnL.nil _ _, ⟨hB, fun b hb => (by cases hb)⟩, List.nodup_nil, fun _ h => (by cases h), fun i h1 h2 => (by
    cases hf : f i with
    | none => exact absurd hf h2
    | some v => rw [hf] at h1; cases h1)⟩
theorem LaR.next {r cnt cnt' : Nat} {left : Int → Bool} {ks : List Int} {x : Int} {v : Value} (h : LaR B r w1 wr G mb km f F left cnt ks A n c) (hl : left x = true) (hf : f x = some v) (hR : RngD V mb r km f (fun y => left y && y != x) cnt') (hG : wr.grownBy V (some r)) :
    ∃ xA xn xc, v = .slice xA xn xc ∧ LotsAt V xA xn xc (G x) ∧ ∀ (ty : TypeId), n + xn ≤ 1000000 →
      ∃ A' c' W, (Builtin.append_ #[41, 41] ty #[.slice A n c, .slice xA xn xc]).run Tryz.prog V = .ok (.slice A' (n + xn) c') W ∧ LaR B r w1 W G mb km f F (fun y => left y && y != x) cnt' (ks ++ [x]) A' (n + xn) c' := by
  have hat := h.fam.at_ x trivial
  rw [hf] at hat
  have hXV : Ex (fun j => j = r) wr V := ⟨hG.os, hG.tape, hG.output, hG.size, fun j hj hx => hG.block j hj (fun e => hx (Option.some.inj e))⟩
  have hrl := h.rng.lt
  -- no row lies in the block of the range
  have hnr : ∀ {A : Option Addr} {n c : Nat} {l : List Lt}, OwnL wr B A n c l → ∀ b, ob A = some b → b ≠ r := fun ho b hb e => by
    subst e
    obtain ⟨cs, fr, e1⟩ := (ho.lotB hb).2
    obtain ⟨D, lf, ⟨es, clock, since, seen, c0, a1, a2, a3, a4, a5, a6⟩, h2⟩ := h.rng
    rw [a5] at e1; cases e1
  have hrm := h.rng.ne
  have hfV : FamL V B mb km f (fun _ => True) F (fun b => ob A = some b) :=
    ⟨hR.map, h.fam.bl, h.fam.at_, fun i hi => (h.fam.rows i hi).ex hXV (hnr (h.fam.rows i hi)), h.fam.ap, h.fam.off⟩
  have hOV : OwnL V B A n c (ks.flatMap G) := h.own.ex hXV (hnr h.own)
  have hxr := (hfV.rows x trivial)
  rw [h.vals x] at hxr
  refine ⟨(F x).2.1, (F x).2.2.1, (F x).2.2.2, by simpa [slV] using hat, hxr.reads, fun ty hn => ?_⟩
  have hB : B ≤ V.heap.size := by have := h.b; have := h.e.le; have := hXV.size; omega
  obtain ⟨A', c', W, hrun, hO1, hGW, hor⟩ := run_appL V ty B A n c (ks.flatMap G) hOV (F x).2.1 (F x).2.2.1 (F x).2.2.2 (G x) hxr.reads (by omega) hB
  have hX1 : Ex (fun j => ob A = some j) V W := ⟨hGW.os, hGW.tape, hGW.output, hGW.size, fun j hj hx => hGW.block j hj (fun e => hx e.symm)⟩
  have hrV := hR.lt
  refine ⟨A', c', W, hrun, ⟨?_, h.b, ?_, h.vals, ?_, ?_, ⟨h.rb.1, fun b hb => ?_⟩, ?_, fun i hi => ?_, fun i h1 h2 => ?_⟩⟩
  · refine e_ex (e_ex h.e hXV (fun i hi => by have := h.rb.1; have := h.b; omega)) hX1 (fun j hj => by have := (h.own.ltN j hj).1; have := h.b; omega)
  · have h2 := hfV.z (Z' := fun b => ob A = some b ∨ V.heap.size ≤ b) (fun j hj => hj)
    refine (h2.ex hX1 (fun j hj => .inl (.inl hj))).z (fun j hj => ?_)
    rcases hor with e | e
    · rw [e] at hj; exact .inl (.inl hj)
    · rw [e] at hj; injection hj with hj; exact .inl (.inr (by omega))
  · exact hR.blocks (hX1.block mb hR.map.lt (fun e => h.fam.bl.2 e)) (hX1.block r hrV (fun e => h.rb.2 r e rfl))
  · rw [List.flatMap_append]
    simpa using hO1
  · rcases hor with e | e
    · rw [e] at hb; exact h.rb.2 b hb
    · rw [e] at hb; injection hb with hb; omega
  · rw [List.nodup_append]
    refine ⟨h.nd, by simp, fun a ha b hb e => ?_⟩
    rw [List.mem_singleton] at hb
    subst hb e
    rw [h.gone _ ha] at hl
    cases hl
  · rcases List.mem_append.1 hi with hi | hi
    · rw [h.gone i hi]; rfl
    · rw [List.mem_singleton] at hi; subst hi; simp
  · by_cases e : i = x
    · subst e; simp
    · have : left i = false := by simpa [e] using h1
      exact List.mem_append_left _ (h.all i this h2)
theorem LaR.full {r cnt : Nat} {left : Int → Bool} {ks : List Int} (h : LaR B r w1 wr G mb km f F left cnt ks A n c) (hl : ∀ i, left i = false) : ∀ i, G i ≠ [] → i ∈ ks := fun i hi => by
  refine h.all i (hl i) (fun e => hi ?_)
  have hat := h.fam.at_ i trivial
  rw [e] at hat
  have hr := h.fam.rows i trivial
  simp only [Option.getD, slV, Value.slice.injEq] at hat
  have := hr.1
  rw [h.vals i, ← hat.2.1] at this
  exact List.eq_nil_of_length_eq_zero this
end
end Go.Proofs.YtmeplpiamkaniaaGreat
namespace Go.Proofs.YtmeplpiamkaniaaGreat
set_option linter.unusedVariables false
set_option linter.unusedSimpArgs false
open Go.RowKit Go.Sort
set_option maxHeartbeats 4000000 in
set_option maxRecDepth 100000 in
theorem laterLess_c (x y : Lt) (W : World) : Calls Tryz.prog 80 #[ltV x, ltV y] W fun e w' => e = .returned (.int .i64 (cmpL x y)) ∧ ∃ q os, w' = grow (W.drewN q) os := by
  have HF := Lib.hid (show cmpL x y = orI (cmpI x.1 y.1) (cmpI x.2.1 y.2.1) from rfl)
  generalize cmpL x y = v at *
  obtain ⟨f, a, m⟩ := x
  obtain ⟨f', a', m'⟩ := y
  unfold ltV
  simp only at HF
  obtain ⟨w1, hw1⟩ : ∃ w1, (W.alloc (.cells #[.int .i64 f, .int .i64 a, .int .i64 m] 30)).alloc (.cells #[.int .i64 f', .int .i64 a', .int .i64 m'] 30) = w1 := ⟨_, rfl⟩
  have hz : w1.heap.size = W.heap.size + 2 := by rw [← hw1]; simp
  have c := cells3_new W (.int .i64 f) (.int .i64 a) (.int .i64 m) 30
  have e := cells3_new (W.alloc (.cells #[.int .i64 f, .int .i64 a, .int .i64 m] 30)) (.int .i64 f') (.int .i64 a') (.int .i64 m') 30
  rw [World.size_alloc, hw1] at e
  have hE1 : E (W.alloc (.cells #[.int .i64 f, .int .i64 a, .int .i64 m] 30)) w1 := by rw [← hw1]; exact (E.refl _).alloc _
  have c0 : w1.cell? ⟨W.heap.size, 0, none⟩ = some (.int .i64 f) := (hE1.cell (p := ⟨W.heap.size, 0, none⟩) (by simp)).trans c.1
  have c1 : w1.cell? ⟨W.heap.size, 1, none⟩ = some (.int .i64 a) := (hE1.cell (p := ⟨W.heap.size, 1, none⟩) (by simp)).trans c.2.1
  obtain ⟨e0, e1, _⟩ := e
  have HW1 := Lib.hid hw1
  clear hw1 c hE1 hz
  go_enter Tryz.func80, Tryz.ntmps80
  go_upto_region 1 with fail
  rw [HW1.out]
  go_region_held3 (fun w' => w'.cell? ⟨W.heap.size, 0, none⟩ = some (.int .i64 f) ∧ w'.cell? ⟨W.heap.size, 1, none⟩ = some (.int .i64 a) ∧ w'.cell? ⟨W.heap.size + 1, 0, none⟩ = some (.int .i64 f') ∧ w'.cell? ⟨W.heap.size + 1, 1, none⟩ = some (.int .i64 a')) (go_keep)
    (first
      | (go_at_call 54; refine (cmpI64_c _ _ _).mono ?_; rintro e w' ⟨rfl, rfl⟩)
      | (go_at_call 52; refine (cmpOr_c _ (cmpI f f') (cmpI a a') _ (by simp [World.cell?_alloc_new]) (by simp [World.cell?_alloc_new])).mono ?_; rintro e w' ⟨rfl, rfl⟩))
  all_goals go_wp2_with fail
  all_goals (go_ret; exact ⟨ret_int HF.out.symm, 1, _, by rw [← HW1.out]; exact grow3 W _ _ _⟩)
set_option maxHeartbeats 1000000 in
set_option maxRecDepth 100000 in
theorem sortLater_c (A : Option Addr) (n c base : Nat) (l : List Lt) (w : World) (h : OwnL w base A n c l) (hn : n ≤ 1000000) :
    Calls Tryz.prog 79 #[.slice A n c, .func (.func 80) #[] #[]] w fun e w' => e = .returned (.tuple #[]) ∧ ∃ l', l'.Perm l ∧ l'.Pairwise (fun x y => ltOf cmpL y x = false) ∧ OwnL w' base A n c l' ∧ w.grownBy w' (ob A) := by
  rcases Nat.eq_zero_or_pos n with h0 | h0
  · subst h0
    have hl : l = [] := List.eq_nil_of_length_eq_zero h.1
    subst hl
    have hS := AnyF.slices_SortFunc_none Tryz.sortFuncL A c (.func (.func 80) #[] #[]) w
    change Calls Tryz.prog 79 _ _ _ at hS
    refine hS.mono ?_
    rintro e w' ⟨rfl, rfl⟩
    exact ⟨rfl, [], List.Perm.refl _, List.Pairwise.nil, h, World.grownBy.refl w' _⟩
  · obtain ⟨a1, ⟨a0, a2⟩, a3⟩ := h
    rcases a2 with ⟨hv, _⟩ | ⟨g, cap, cur, hv, hbase, hh, hnc, hcm, hsz, htk⟩
    · injection hv with e1 e2; omega
    injection hv with e1 e2 e3
    subst e1 e3
    have hF : (flatK encL 3 l.toArray).toList = flatL l := flatK_L l.toArray
    have hFs : (flatK encL 3 l.toArray).size = n * 3 := by rw [size_flatK]; simp [a1]
    have hH : HoldsK encL 3 w g 0 l.toArray := holdsV _ hh (by rw [hFs, hF]; exact htk)
    have hlt : g < w.heap.size := lt_blk hh
    have eg : ∀ args w, (callFunc 80 args).run Tryz.prog w = .ok (.enter 80 args) w := enters_of Tryz.func80 (by kernel_rfl) rfl
    have hcmp : CmpLays Tryz.prog 80 #[] encL 3 cmpL g 0 l.toArray.size w := fun m os dk _ x y => laterLess_c x y _
    have hS := AnyQ.slices_SortFunc Tryz.sortFuncL 3 Tryz.isAgg30 Tryz.sizeOf30 encL (fun _ => rfl) (fun x v hv => by simp [encL] at hv; rcases hv with rfl | rfl | rfl <;> rfl) cmpL cmpL_swo 80 #[] g 0 c l.toArray w eg hcmp hH hlt (by simp [a1]; omega)
    change Calls Tryz.prog 79 _ _ _ at hS
    have hsz' : l.toArray.size = n := by simp [a1]
    rw [hsz'] at hS
    refine hS.mono ?_
    rintro e w' ⟨rfl, d', m, os, ⟨p1, _, p3⟩, hs, rfl⟩
    rw [hsz'] at p1
    have pp : d'.toList.Perm l := by
      have e1 : d'.extract 0 n = d' := by rw [← p1]; simp
      have e2 : l.toArray.extract 0 n = l.toArray := by rw [← hsz']; simp
      rw [e1, e2] at p3
      exact p3
    have hFd : (flatK encL 3 d').toList = flatL d'.toList := flatK_L d'
    have hFds : (flatK encL 3 d').size = n * 3 := by rw [size_flatK, p1]
    refine ⟨rfl, d'.toList, pp, ?_, ⟨by rw [Array.length_toList, p1], ⟨by rw [flatL_len, Array.length_toList, p1], .inr ⟨g, c, _, rfl, hbase, heap_sortedV _ hh, hnc, hcm, by simp [putCells, hsz], ?_⟩⟩, fun x hx => a3 x (pp.mem_iff.1 hx)⟩, grownBy_sortedV _⟩
    · rw [List.pairwise_iff_getElem]
      intro i j hi hj hij
      have := hs i j (Nat.zero_le _) hij (by rw [Array.length_toList, p1] at hj; exact hj)
      rw [getElem!_pos d' j (by simpa using hj), getElem!_pos d' i (by simpa using hi)] at this
      simpa using this
    · rw [← hFds, take_putV _ _ (by rw [hFds, hsz]; exact Nat.mul_le_mul_right 3 hnc), hFd]
end Go.Proofs.YtmeplpiamkaniaaGreat
namespace Go.Proofs
set_option linter.unusedVariables false
set_option linter.unusedSimpArgs false
open Go.Shelf
def Tryz.sortI_ren : Go.Shelf.Ren := ⟨fun | 5 => 37 | 8 => 76 | 7 => 75 | 19 => 115 | 20 => 116 | 10 => 106 | 11 => 107 | 12 => 108 | 13 => 109 | 14 => 110 | 15 => 111 | 16 => 112 | 17 => 113 | 18 => 114 | 30 => 131 | 31 => 132 | 32 => 133 | 33 => 134 | 34 => 135 | 35 => 90 | 40 => 147 | n => n, fun | 23 => 22 | 25 => 3 | 3 => 3 | 32 => 110 | 22 => 22 | 0 => 0 | 44 => 142 | 46 => 34 | 4 => 4 | 36 => 135 | 35 => 134 | 41 => 67 | 5 => 5 | 9 => 9 | 53 => 154 | 57 => 158 | 63 => 167 | 64 => 168 | n => n, fun | n => n⟩
theorem Tryz.sortI : Go.Proofs.SlLaysM.n5 Tryz.prog Tryz.sortI_ren := {
  mixed := by kernel_rfl
  f5 := ⟨Tryz.f37.name, by decide, Tryz.func37.trans (congrArg some (by kernel_rfl))⟩
  f7 := ⟨Tryz.f75.name, by decide, Tryz.func75.trans (congrArg some (by kernel_rfl))⟩
  f8 := Tryz.func76.trans (congrArg some (by kernel_rfl))
  f10 := ⟨Tryz.f106.name, by decide, Tryz.func106.trans (congrArg some (by kernel_rfl))⟩
  f11 := ⟨Tryz.f107.name, by decide, Tryz.func107.trans (congrArg some (by kernel_rfl))⟩
  f12 := ⟨Tryz.f108.name, by decide, Tryz.func108.trans (congrArg some (by kernel_rfl))⟩
  f13 := ⟨Tryz.f109.name, by decide, Tryz.func109.trans (congrArg some (by kernel_rfl))⟩
  f14 := ⟨Tryz.f110.name, by decide, Tryz.func110.trans (congrArg some (by kernel_rfl))⟩
  f15 := ⟨Tryz.f111.name, by decide, Tryz.func111.trans (congrArg some (by kernel_rfl))⟩
  f16 := ⟨Tryz.f112.name, by decide, Tryz.func112.trans (congrArg some (by kernel_rfl))⟩
  f17 := ⟨Tryz.f113.name, by decide, Tryz.func113.trans (congrArg some (by kernel_rfl))⟩
  f18 := ⟨Tryz.f114.name, by decide, Tryz.func114.trans (congrArg some (by kernel_rfl))⟩
  f19 := Tryz.func115.trans (congrArg some (by kernel_rfl))
  f20 := Tryz.func116.trans (congrArg some (by kernel_rfl))
  f30 := ⟨Tryz.f131.name, by decide, Tryz.func131.trans (congrArg some (by kernel_rfl))⟩
  f31 := Tryz.func132.trans (congrArg some (by kernel_rfl))
  f32 := Tryz.func133.trans (congrArg some (by kernel_rfl))
  f33 := ⟨Tryz.f134.name, by decide, Tryz.func134.trans (congrArg some (by kernel_rfl))⟩
  f34 := ⟨Tryz.f135.name, by decide, Tryz.func135.trans (congrArg some (by kernel_rfl))⟩
  f35 := ⟨Tryz.f90.name, by decide, Tryz.func90.trans (congrArg some (by kernel_rfl))⟩
  f40 := ⟨Tryz.f147.name, by decide, Tryz.func147.trans (congrArg some (by kernel_rfl))⟩
  t0 := Tryz.underlying0
  a0 := Tryz.isAgg0
  z0 := Tryz.sizeOf0
  v0 := Tryz.zeroValue0
  t3 := Tryz.underlying3
  a3 := Tryz.isAgg3
  z3 := Tryz.sizeOf3
  v3 := Tryz.zeroValue3
  t4 := Tryz.underlying4
  a4 := Tryz.isAgg4
  z4 := Tryz.sizeOf4
  v4 := Tryz.zeroValue4
  t5 := Tryz.underlying5
  a5 := Tryz.isAgg5
  z5 := Tryz.sizeOf5
  v5 := Tryz.zeroValue5
  t9 := Tryz.underlying9
  a9 := Tryz.isAgg9
  z9 := Tryz.sizeOf9
  v9 := Tryz.zeroValue9
  t22 := Tryz.underlying22
  a22 := Tryz.isAgg22
  z22 := Tryz.sizeOf22
  v22 := Tryz.zeroValue22
  t23 := Tryz.underlying22
  a23 := Tryz.isAgg22
  z23 := Tryz.sizeOf22
  v23 := Tryz.zeroValue22
  t25 := Tryz.underlying3
  a25 := Tryz.isAgg3
  z25 := Tryz.sizeOf3
  v25 := Tryz.zeroValue3
  t32 := Tryz.underlying110
  a32 := Tryz.isAgg110
  z32 := Tryz.sizeOf110
  v32 := Tryz.zeroValue110
  t35 := Tryz.underlying134
  a35 := Tryz.isAgg134
  z35 := Tryz.sizeOf134
  v35 := Tryz.zeroValue134
  t36 := Tryz.underlying135
  a36 := Tryz.isAgg135
  z36 := Tryz.sizeOf135
  v36 := Tryz.zeroValue135
  t41 := Tryz.underlying67
  a41 := Tryz.isAgg67
  z41 := Tryz.sizeOf67
  v41 := Tryz.zeroValue67
  t44 := Tryz.underlying142
  a44 := Tryz.isAgg142
  z44 := Tryz.sizeOf142
  v44 := Tryz.zeroValue142
  t46 := Tryz.underlying34
  a46 := Tryz.isAgg34
  z46 := Tryz.sizeOf34
  v46 := Tryz.zeroValue34
  t53 := Tryz.underlying154
  a53 := Tryz.isAgg154
  z53 := Tryz.sizeOf154
  v53 := Tryz.zeroValue154
  t57 := Tryz.underlying158
  a57 := Tryz.isAgg158
  z57 := Tryz.sizeOf158
  v57 := Tryz.zeroValue158
  t63 := Tryz.underlying167
  a63 := Tryz.isAgg167
  z63 := Tryz.sizeOf167
  v63 := Tryz.zeroValue167
  t64 := Tryz.underlying168
  a64 := Tryz.isAgg168
  z64 := Tryz.sizeOf168
  v64 := Tryz.zeroValue168 }
end Go.Proofs
namespace Go.Proofs.YtmeplpiamkaniaaGreat
set_option linter.unusedVariables false
set_option linter.unusedSimpArgs false
open Go.RowKit Go.Shelf Go.Sort
theorem sortI_c (A : Option Addr) (n c base : Nat) (l : List Int) (w : World) (h : Own .i64 3 w base A n c l) (hn : n ≤ 1099511627776) :
    Calls Tryz.prog 37 #[.slice A n c] w fun e w' => e = .returned (.tuple #[]) ∧ Own .i64 3 w' base A n c (l.mergeSort fun x y => decide (x ≤ y)) ∧ w.grownBy w' (ob A) := by
  rcases Nat.eq_zero_or_pos n with h0 | h0
  · subst h0
    have hl : l = [] := List.eq_nil_of_length_eq_zero h.1
    subst hl
    have hS := AnyM.slices_Sort_int_none Tryz.sortI A c w
    change Calls Tryz.prog 37 _ _ _ at hS
    refine hS.mono ?_
    rintro e w' ⟨rfl, rfl⟩
    exact ⟨rfl, by simpa using h, World.grownBy.refl _ _⟩
  · obtain ⟨a1, ⟨_, a2⟩, a3⟩ := h
    rcases a2 with ⟨hv, h1⟩ | ⟨g, cap, cur, hv, hbase, hh, hnc, hcm, hsz, htk⟩
    · omega
    injection hv with e1 e2 e3
    subst e1 e3
    have hlt : g < w.heap.size := (Array.getElem?_eq_some_iff.1 hh).1
    have hH : Holds (Value.int .i64) w g 0 l.toArray := holds_of_blockI hh (by rw [a1]; simpa using htk)
    have hS := AnyM.slices_Sort_int Tryz.sortI g 0 c l w hH hlt (by omega)
    change Calls Tryz.prog 37 _ _ _ at hS
    rw [a1] at hS
    refine hS.mono ?_
    rintro e w' ⟨rfl, m, os, rfl⟩
    refine ⟨rfl, ⟨by simpa using a1, ?_, fun x hx => a3 x (List.mem_mergeSort.1 hx)⟩, grownBy_sortedI _⟩
    have := ownsRow_sortedI (w := w) (base := base) (g := g) (cap := c) (n := m) (e := 3) (os := os) (cur := cur) (ss := l) (ts := l.mergeSort fun x y => decide (x ≤ y)) (by simp) hbase hh (by omega) hcm hsz
    rw [a1] at this
    exact this
theorem sorted_of {P : Int → Prop} {l : List Int} (hn : l.Nodup) (hm : ∀ x, x ∈ l ↔ P x) : Sorted P (l.mergeSort fun x y => decide (x ≤ y)) := by
  have hp := List.mergeSort_perm l fun x y => decide (x ≤ y)
  refine ⟨?_, fun x => by rw [hp.mem_iff, hm]⟩
  have hs : (l.mergeSort fun x y => decide (x ≤ y)).Pairwise fun x y => x ≤ y := by
    have := List.pairwise_mergeSort (le := fun x y : Int => decide (x ≤ y)) (fun a b c h1 h2 => by simp at *; omega) (fun a b => by simp; omega) l
    exact this.imp (fun h => by simpa using h)
  have hn2 : (l.mergeSort fun x y => decide (x ≤ y)).Pairwise fun x y => x ≠ y := hp.nodup_iff.2 hn
  exact hs.imp₂ (fun a b h1 h2 => by omega) hn2
end Go.Proofs.YtmeplpiamkaniaaGreat
namespace Go.Proofs.YtmeplpiamkaniaaGreat
set_option linter.unusedVariables false
set_option linter.unusedSimpArgs false
open Go.RowKit
def RetSorted (w : World) (P : Int → Prop) (e : Ending) (w' : World) : Prop := ∃ l, Sorted P l ∧ RetOwn .i64 3 w l e w'
theorem set_flow {fs : List Fl} {p : Nat} {fl : Fl} {l : List Lt} (hl : ∀ y ∈ l, hasF fs y = true ∧ posF fs y.1 = some p) (hf : fs[p]? = some fl) : ∀ y ∈ setS l, getF fs y.1 = some fl := fun s hs => by
  have hc := (setS_facts (l := l) fun y hy => (hasF_iff.1 (hl y hy).1).1).1
  have h1 := hc.pos s hs
  obtain ⟨y, hy, hu⟩ := mem_U.1 (mem_setS.1 (mem_U.2 ⟨s, hs, mem_ul.2 ⟨rfl, Int.le_refl _, by simp only; omega⟩⟩ : (s.1, s.2.1) ∈ U (setS l)))
  obtain ⟨g, h2, h3, _⟩ := posF_some (hl y hy).2
  rw [hf] at h2
  injection h2 with h2
  subst h2
  have h4 := (mem_ul.1 hu).1
  simp only at h4
  rw [h4]; exact h3
set_option linter.unusedSimpArgs false in
set_option maxHeartbeats 8000000 in
set_option maxRecDepth 100000 in
theorem gAnc_c (X : Nat → Prop) (g : Nat) (fs : List Fl) (x : Lt) (w : World) (h : GraphAt w X g fs) (hx : WfL x) (hSm : Sm fs) :
    Calls Tryz.prog 42 #[.pointer (some ⟨g, 0, none⟩), ltV x] w (RetSorted w (fun i => hasF fs x = true ∧ AncI fs x i)) := by
  obtain ⟨w1, hw1⟩ : ∃ w1, w.alloc (.cells #[.int .i64 x.1, .int .i64 x.2.1, .int .i64 x.2.2] 30) = w1 := ⟨_, rfl⟩
  have hE1 : E w w1 := by rw [← hw1]; exact (E.refl w).alloc _
  have hx3 := cells3_new w (.int .i64 x.1) (.int .i64 x.2.1) (.int .i64 x.2.2) 30
  rw [hw1] at hx3
  have HZ1 := Lib.hid (show w.heap.size < w1.heap.size by rw [← hw1]; simp)
  have HH := Lib.hid (gHas_c X g fs x w1 (h.e hE1) hx)
  have HE1 := Lib.hid hE1
  have HX3 := Lib.hid hx3
  have HX := Lib.hid hx
  have HOK := Lib.hid h.ok
  have HWF := Lib.hid h.wfs
  have HSM := Lib.hid hSm
  obtain ⟨p, hG⟩ := h
  have HG := Lib.hid (hG.e hE1)
  have HGA := Lib.hid (show GraphAt w1 X g fs from ⟨p, hG.e hE1⟩)
  obtain ⟨c0, c1, c2⟩ := hx3
  obtain ⟨bv, hbv⟩ : ∃ bv, hasF fs x = bv := ⟨_, rfl⟩
  have HBV := Lib.hid hbv
  rw [hbv] at HH
  obtain ⟨R, hR⟩ : ∃ R : Int → Prop, (fun i => hasF fs x = true ∧ AncI fs x i) = R := ⟨_, rfl⟩
  have HR := Lib.hid (fun i => show R i ↔ hasF fs x = true ∧ AncI fs x i by rw [← hR])
  rw [hR]
  clear hG hE1 hx hbv hSm hR
  unfold ltV at *
  cases bv
  · go_enter Tryz.func42, Tryz.ntmps42
    go_upto_region 1 with fail
    try rw [hw1]
    clear hw1
    go_wp2_with (go_at_call 34; refine HH.out.mono ?_; rintro e w3 ⟨rfl, hE3⟩)
    go_ret
    refine ⟨[], ⟨List.Pairwise.nil, fun i => ⟨fun h => (by cases h), fun h => (by have h := ((HR.out i).1 h).1; rw [HBV.out] at h; cases h)⟩⟩, none, 0, 0, rfl, Own.nil _ _ _ _, HE1.out.trans hE3⟩
  · have hh := HBV.out
    obtain ⟨f0, hgf0, _, _, hx0, hx1, hx2⟩ := has_get hh
    obtain ⟨j, hp0, hfj⟩ := pos_of_get hgf0
    have hjn : j < fs.length := (List.getElem?_eq_some_iff.1 hfj).1
    have HP0 := Lib.hid hp0
    have HJN := Lib.hid hjn
    have HXN := Lib.hid (And.intro hx0 (And.intro hx1 hx2))
    clear hh hgf0 hx0 hx1 hx2 hp0 hfj hjn
    go_enter Tryz.func42, Tryz.ntmps42
    go_upto_region 1 with fail
    try rw [hw1]
    clear hw1
    go_upto_region 3 with (go_at_call 34; refine HH.out.mono ?_; rintro e w3 ⟨rfl, hE3⟩)
    clear c0 c1 c2
    have HZ3 := Lib.hid (Nat.lt_of_lt_of_le HZ1.out hE3.le)
    have hcx : ∀ W, E w3 W → (W.cell? ⟨w.heap.size, 0, none⟩ = some (.int .i64 x.1) ∧ W.cell? ⟨w.heap.size, 1, none⟩ = some (.int .i64 x.2.1) ∧ W.cell? ⟨w.heap.size, 2, none⟩ = some (.int .i64 x.2.2)) := fun W hW =>
      ⟨((hE3.trans hW).cell (p := ⟨w.heap.size, 0, none⟩) HZ1.out).trans HX3.out.1, ((hE3.trans hW).cell (p := ⟨w.heap.size, 1, none⟩) HZ1.out).trans HX3.out.2.1, ((hE3.trans hW).cell (p := ⟨w.heap.size, 2, none⟩) HZ1.out).trans HX3.out.2.2⟩
    have hGd := HG.out.e (hE3.drew)
    have hS : ∀ W, E w3 W → W.cell? ⟨g, 2, none⟩ = some (.map (some p.mb)) ∧ W.cell? ⟨w.heap.size, 0, none⟩ = some (.int .i64 x.1) ∧ W.cell? ⟨w.heap.size, 1, none⟩ = some (.int .i64 x.2.1) ∧ W.cell? ⟨w.heap.size, 2, none⟩ = some (.int .i64 x.2.2) ∧ (Instr.lookup 61 (.map (some p.mb)) (.int .i64 x.1) false).run Tryz.prog W = .ok (.int .i64 (j : Int)) W := fun W hW => by
      refine ⟨(HG.out.e (hE3.trans hW)).blk.cells.2.2.1, (hcx W hW).1, (hcx W hW).2.1, (hcx W hW).2.2, ?_⟩
      have := (HG.out.e (hE3.trans hW)).mp.look mapIT HX.out.1
      rw [plc_some HP0.out] at this
      exact this
    have s0 := hS _ (E.refl w3).drew
    -- the map first, then the row
    obtain ⟨Ma, hMa⟩ : ∃ Ma, w3.drew.alloc (.map #[] 0) = Ma := ⟨_, rfl⟩
    have hEMa : E w3 Ma := by rw [← hMa]; exact (E.refl w3).drew.alloc _
    obtain ⟨Mb, hMb⟩ : ∃ Mb, Ma.alloc (.cells #[.int .i64 x.1, .int .i64 x.2.1, .int .i64 x.2.2] 30) = Mb := ⟨_, rfl⟩
    have hEMb : E w3 Mb := by rw [← hMb]; exact hEMa.alloc _
    have hwj : (Lit.int .i64 (j : Int)).wf = true := wf_of_i64 (by omega) (by have := HJN.out; have := HSM.out.n; omega)
    have hFa : FamL Mb w1.heap.size w3.heap.size 0 (fun _ => none) (fun _ => True) (fun _ => noR) (fun b => ob none = some b) := by
      have := FamL.made (base := w1.heap.size) w3.drew (fun _ => True) (fun b => ob none = some b) hE3.le (fun e => (by cases e))
      rw [hMa] at this
      exact this.e (by rw [← hMb]; exact (E.refl Ma).alloc _)
    have hza : w3.heap.size < Ma.heap.size := by rw [← hMa]; simp
    obtain ⟨Mc, hrunA, hFA, hXA⟩ := hFa.put (j : Int) hwj (by unfold maxLen; omega) ([x], some ⟨Ma.heap.size, 0, none⟩, 1, 1) (by rw [← hMb]; exact (OwnL.one HX.out).rebase (by have := hE3.le; omega)) (fun _ _ _ b hb => (by cases hb)) (fun _ _ e => (by cases e))
    -- the row first, then the map
    obtain ⟨Na, hNa⟩ : ∃ Na, w3.drew.alloc (.cells #[.int .i64 x.1, .int .i64 x.2.1, .int .i64 x.2.2] 30) = Na := ⟨_, rfl⟩
    have hENa : E w3 Na := by rw [← hNa]; exact (E.refl w3).drew.alloc _
    obtain ⟨Nb, hNb⟩ : ∃ Nb, Na.alloc (.map #[] 0) = Nb := ⟨_, rfl⟩
    have hENb : E w3 Nb := by rw [← hNb]; exact hENa.alloc _
    have hOx : OwnL Na w3.heap.size (some ⟨w3.heap.size, 0, none⟩) 1 1 [x] := by
      have := OwnL.one (w := w3.drew) HX.out
      rw [hNa] at this
      exact this
    have hFb : FamL Nb w1.heap.size Na.heap.size 0 (fun _ => none) (fun _ => True) (fun _ => noR) (fun b => ob none = some b) := by
      have := FamL.made (base := w1.heap.size) Na (fun _ => True) (fun b => ob none = some b) (Nat.le_trans hE3.le hENa.le) (fun e => (by cases e))
      rw [hNb] at this
      exact this
    obtain ⟨Nc, hrunB, hFB, hXB⟩ := hFb.put (j : Int) hwj (by unfold maxLen; omega) ([x], some ⟨w3.heap.size, 0, none⟩, 1, 1) ((hOx.e (by rw [← hNb]; exact (E.refl Na).alloc _)).rebase (by have := hE3.le; omega)) (fun _ _ _ b hb => (by cases hb)) (fun _ _ e => (by cases e))
    simp only [slV] at hrunA hrunB
    have sMa := hS _ hEMa
    have sMb := hS _ hEMb
    have sNa := hS _ hENa
    have sNb := hS _ hENb
    have hE3A : E w3 Mc := e_ex hEMb hXA (fun i hi => by omega)
    have hE3B : E w3 Nc := e_ex hENb hXB (fun i hi => by have := hENa.le; omega)
    have sMc := hS _ hE3A
    have sNc := hS _ hE3B
    clear hS hcx hGd
    have hmm := fun W => run_makeMap (P := Tryz.prog) 113 W
    go_cut [5] (fun t5 wx => ∃ mb f F, t5 = .map (some mb) ∧ E w3 wx ∧ FamL wx w1.heap.size mb 1 f (fun _ => True) F (fun b => ob none = some b) ∧ ∀ q : Nat, (F (q : Int)).1 = if q = j then [x] else [])
    case first =>
      refine wp_region_held_drew (S := (fun W => W.cell? ⟨g, 2, none⟩ = some (.map (some p.mb)) ∧ W.cell? ⟨w.heap.size, 0, none⟩ = some (.int .i64 x.1) ∧ W.cell? ⟨w.heap.size, 1, none⟩ = some (.int .i64 x.2.1) ∧ W.cell? ⟨w.heap.size, 2, none⟩ = some (.int .i64 x.2.2) ∧ (Instr.lookup 61 (.map (some p.mb)) (.int .i64 x.1) false).run Tryz.prog W = .ok (.int .i64 (j : Int)) W)) (by kernel_rfl) s0 (fun hHeld => ?_)
      (((refine wpAnyH_take (i := 1) (v := ?_) rfl (by kernel_rfl) (by kernel_rfl) (by kernel_rfl) (fun _ _ _ h => h) (Or.inl ⟨by kernel_rfl, ?_⟩) (by assumption) ?_); rotate_left 1; (focus (intro w hSw; (try dsimp only at hSw); go_simp; (try with_reducible rfl))); (try simp only [Act.put, sA, sB, sC])); ((refine wpAnyH_take (i := 2) (v := ?_) rfl (by kernel_rfl) (by kernel_rfl) (by kernel_rfl) (fun _ _ _ h => h) (Or.inl ⟨by kernel_rfl, ?_⟩) (by assumption) ?_); rotate_left 1; (focus (intro w hSw; (try dsimp only at hSw); go_simp; (try with_reducible rfl))); (try simp only [Act.put, sA, sB, sC])); ((refine wpAnyH_take (i := 3) (v := ?_) rfl (by kernel_rfl) (by kernel_rfl) (by kernel_rfl) (fun _ _ _ h => h) (Or.inl ⟨by kernel_rfl, ?_⟩) (by assumption) ?_); rotate_left 1; (focus (intro w hSw; (try dsimp only at hSw); go_simp; (try with_reducible rfl))); (try simp only [Act.put, sA, sB, sC])); ((refine wpAnyH_take (i := 4) (v := ?_) rfl (by kernel_rfl) (by kernel_rfl) (by kernel_rfl) (fun _ _ _ h => h) (Or.inl ⟨by kernel_rfl, ?_⟩) (by assumption) ?_); rotate_left 1; (focus (intro w hSw; (try dsimp only at hSw); go_simp; (try with_reducible rfl))); (try simp only [Act.put, sA, sB, sC])); ((refine wpAnyH_take (i := 5) (v := ?_) rfl (by kernel_rfl) (by kernel_rfl) (by kernel_rfl) (fun _ _ _ h => h) (Or.inl ⟨by kernel_rfl, ?_⟩) (by assumption) ?_); rotate_left 1; (focus (intro w hSw; (try dsimp only at hSw); go_simp; (try with_reducible rfl))); (try simp only [Act.put, sA, sB, sC])); ((refine wpAnyH_take (i := 6) (v := ?_) rfl (by kernel_rfl) (by kernel_rfl) (by kernel_rfl) (fun _ _ _ h => h) (Or.inl ⟨by kernel_rfl, ?_⟩) (by assumption) ?_); rotate_left 1; (focus (intro w hSw; (try dsimp only at hSw); go_simp; (try with_reducible rfl))); (try simp only [Act.put, sA, sB, sC])); ((refine wpAnyH_take (i := 7) (v := ?_) rfl (by kernel_rfl) (by kernel_rfl) (by kernel_rfl) (fun _ _ _ h => h) (Or.inl ⟨by kernel_rfl, ?_⟩) (by assumption) ?_); rotate_left 1; (focus (intro w hSw; (try dsimp only at hSw); go_simp; (try with_reducible rfl))); (try simp only [Act.put, sA, sB, sC])); ((refine wpAnyH_take (i := 8) (v := ?_) rfl (by kernel_rfl) (by kernel_rfl) (by kernel_rfl) (fun _ _ _ h => h) (Or.inl ⟨by kernel_rfl, ?_⟩) (by assumption) ?_); rotate_left 1; (focus (intro w hSw; (try dsimp only at hSw); go_simp; (try with_reducible rfl))); (try simp only [Act.put, sA, sB, sC])))
      clear hHeld
      refine wpAnyH_ready (rs := [0, 9]) (by kernel_rfl) (by simp) ?_
      refine AllReadyH.cons rfl (fun K hK => ?_) (AllReadyH.cons rfl (fun K hK => ?_) AllReadyH.nil)
      · rw [if_pos (by kernel_rfl)]
        go_simp
        (try rw [hMa])
        refine hK _ _ sMa (fun hh => ?_)
        clear hK K hh
        (try simp only [Act.put, sA, sB, sC])
        (((refine wpAnyH_ready (rs := [9]) (by kernel_rfl) (by simp) ?_); (refine AllReadyH.cons rfl (fun K hK => ?_) AllReadyH.nil); (rw [if_pos (by kernel_rfl)]); go_simp))
        (try rw [hMb])
        refine hK _ _ sMb (fun hh => ?_)
        clear hK K hh
        (try simp only [Act.put, sA, sB, sC])
        (((refine wpAnyH_ready (rs := [10]) (by kernel_rfl) (by simp) ?_); (refine AllReadyH.cons rfl (fun K hK => ?_) AllReadyH.nil); (rw [if_pos (by kernel_rfl)]); go_simp))
        refine hK _ _ sMc (fun hh => ?_)
        clear hK K
        (try simp only [Act.put, sA, sB, sC])
        (((refine wpAnyH_take (i := 11) (v := ?_) rfl (by kernel_rfl) (by kernel_rfl) (by kernel_rfl) (fun _ _ _ h => h) (Or.inl ⟨by kernel_rfl, ?_⟩) (by assumption) ?_); rotate_left 1; (focus (intro w hSw; (try dsimp only at hSw); go_simp; (try with_reducible rfl))); (try simp only [Act.put, sA, sB, sC])); ((refine wpAnyH_take (i := 12) (v := ?_) rfl (by kernel_rfl) (by kernel_rfl) (by kernel_rfl) (fun _ _ _ h => h) (Or.inl ⟨by kernel_rfl, ?_⟩) (by assumption) ?_); rotate_left 1; (focus (intro w hSw; (try dsimp only at hSw); go_simp; (try with_reducible rfl))); (try simp only [Act.put, sA, sB, sC])))
        refine wpAnyH_done (by kernel_rfl) ?_ _
        go_simp
        go_wp2_with fail
        go_meet
        exact ⟨_, _, _, rfl, hE3A, hFA.sub (fun _ _ => .inl trivial), fun q => upd_one x _ j q⟩
      · rw [if_pos (by kernel_rfl)]
        go_simp
        (try rw [hNa])
        refine hK _ _ sNa (fun hh => ?_)
        clear hK K hh
        (try simp only [Act.put, sA, sB, sC])
        (((refine wpAnyH_ready (rs := [0]) (by kernel_rfl) (by simp) ?_); (refine AllReadyH.cons rfl (fun K hK => ?_) AllReadyH.nil); (rw [if_pos (by kernel_rfl)]); go_simp))
        (try rw [hNb])
        refine hK _ _ sNb (fun hh => ?_)
        clear hK K hh
        (try simp only [Act.put, sA, sB, sC])
        (((refine wpAnyH_ready (rs := [10]) (by kernel_rfl) (by simp) ?_); (refine AllReadyH.cons rfl (fun K hK => ?_) AllReadyH.nil); (rw [if_pos (by kernel_rfl)]); go_simp))
        refine hK _ _ sNc (fun hh => ?_)
        clear hK K
        (try simp only [Act.put, sA, sB, sC])
        (((refine wpAnyH_take (i := 11) (v := ?_) rfl (by kernel_rfl) (by kernel_rfl) (by kernel_rfl) (fun _ _ _ h => h) (Or.inl ⟨by kernel_rfl, ?_⟩) (by assumption) ?_); rotate_left 1; (focus (intro w hSw; (try dsimp only at hSw); go_simp; (try with_reducible rfl))); (try simp only [Act.put, sA, sB, sC])); ((refine wpAnyH_take (i := 12) (v := ?_) rfl (by kernel_rfl) (by kernel_rfl) (by kernel_rfl) (fun _ _ _ h => h) (Or.inl ⟨by kernel_rfl, ?_⟩) (by assumption) ?_); rotate_left 1; (focus (intro w hSw; (try dsimp only at hSw); go_simp; (try with_reducible rfl))); (try simp only [Act.put, sA, sB, sC])))
        refine wpAnyH_done (by kernel_rfl) ?_ _
        go_simp
        go_wp2_with fail
        go_meet
        exact ⟨_, _, _, rfl, hE3B, hFB.sub (fun _ _ => .inl trivial), fun q => upd_one x _ j q⟩
    case rest =>
      obtain ⟨mb, fm, F, rfl, hE3w, hFw, hFv⟩ := hcut
      clear hmm hXA hXB hFA hFB hrunA hrunB hFa hFb hOx hEMa hEMb hENa hENb sMa sMb sMc sNa sNb sNc s0 hE3A hE3B hMa hMb hNa hNb hza
      have hlo : p.ord.length = fs.length := HG.out.topo.ln
      have hst : AnO w1.heap.size 5500 w1 wc fs p.ord x p.ord.length (fun q => if q = j then [x] else []) [] mb 1 fm F none 0 0 :=
        ⟨hE3.trans hE3w, rfl, hFw, fun k q _ _ => hFv q, Own.nil _ _ _ _, AncSt.begin HBV.out HP0.out, Nat.le_refl _, fun q => (by by_cases e : q = j <;> simp [e]), (by omega), (by simp)⟩
      have HST := Lib.hid hst
      have c3 := (HG.out.e (hE3.trans hE3w)).blk.cells.2.2.2.1
      have hgn := HG.out.flows.n63
      have HLO := Lib.hid hlo
      have ht7 := Lib.hid (show ((fs.length : Int) - 1) = ((p.ord.length : Nat) : Int) - 1 by rw [hlo])
      clear hst hFw hFv hlo hE3w
      go_wp2_with fail
      clear c3
      go_loopw [6, 7] (fun t6 t7 wr => ∃ (m : Nat) (G : Nat → List Lt) (ids : List Int) (km : Nat) (f : Int → Option Value) (F : Int → LR) (Ai : Option Addr) (ni ci : Nat), t6 = .slice Ai ni ci ∧ t7 = .int .i64 ((m : Int) - 1) ∧ AnO w1.heap.size 5500 w1 wr fs p.ord x m G ids mb km f F Ai ni ci) (fun _ t7 _ => (intOf t7 + 1).toNat)
      case atStart => exact ⟨p.ord.length, _, [], 1, fm, F, none, 0, 0, rfl, by rw [ht7.out], HST.out⟩
      case round =>
        clear HST ht7
        obtain ⟨m, G, ids, km, f, F, Ai, ni, ci, rfl, rfl, hA⟩ := hrel
        rcases Nat.eq_zero_or_pos m with rfl | hm0
        · have HA := Lib.hid hA
          have hil := hA.il
          have hn10 := HSM.out.n
          have HSO := Lib.hid (sortI_c Ai ni ci w1.heap.size ids wr hA.own (by have := hA.own.1; have := HLO.out; omega))
          have hm1 : ((0 : Nat) : Int) - 1 = -1 := by omega
          rw [hm1]
          clear hA hil hn10 hm1
          go_wp2_with (go_at_call 37; refine HSO.out.mono ?_; rintro e w5 ⟨rfl, hO5, hG5⟩)
          go_ret
          have hE5 : E w1 w5 := HA.out.e.grown hG5 (fun b hb => (HA.out.own.ltN b hb).1)
          exact ⟨_, sorted_of HA.out.st.nd (fun i => by rw [HA.out.st.done HOK.out HG.out.topo i, HR.out]; exact ⟨fun h => ⟨HBV.out, h⟩, fun h => h.2⟩), Ai, ni, ci, rfl, hO5.rebase HE1.out.le, HE1.out.trans hE5⟩
        · obtain ⟨m', rfl⟩ : ∃ m', m = m' + 1 := ⟨m - 1, by omega⟩
          have hm1 : ((m' + 1 : Nat) : Int) - 1 = (m' : Int) := by omega
          rw [hm1]
          have hmlt : m' < p.ord.length := by have := hA.le; omega
          have hmn : m' < fs.length := by rw [← HLO.out]; exact hmlt
          obtain ⟨pl, hpl⟩ : ∃ pl, p.ord[m']? = some pl := ⟨_, List.getElem?_eq_getElem hmlt⟩
          have hpln := HG.out.topo.lt pl (List.mem_of_getElem? hpl)
          have hGr := HG.out.e hA.e
          have hgc := hGr.blk.cells
          obtain ⟨go, xo, hAo, _, _, hxo, hwo, co, _⟩ := hGr.od.get (i := m') hmn
          rw [ints_get, hpl] at hxo
          injection hxo with hxo
          subst hxo
          have c3 := hgc.2.2.2.1
          have c0 := hgc.1
          rw [hAo] at c3
          have hlk := (hA.fam.look (i := (pl : Int)) trivial hwo)
          obtain ⟨⟨rl, rA, rn, rc⟩, hFp⟩ : ∃ r, F (pl : Int) = r := ⟨_, rfl⟩
          rw [hFp] at hlk
          simp only [slV] at hlk
          have hrO : OwnL wr w1.heap.size rA rn rc rl := by have := hA.fam.rows (pl : Int) trivial; rwa [hFp] at this
          have hrl : rl = G pl := by have := hA.vals m' pl (Nat.lt_succ_self _) hpl; rwa [hFp] at this
          have hmI : (m' : Int) < (fs.length : Int) := by omega
          have hplI : (pl : Int) < (fs.length : Int) := by omega
          have hrn63 := hrO.reads.n63
          have HA := Lib.hid hA
          have HPL := Lib.hid hpl
          have HAO := Lib.hid hAo
          have HRO := Lib.hid hrO
          have HRL := Lib.hid hrl
          have HFP := Lib.hid hFp
          have HWP := Lib.hid hwo
          have HMM := Lib.hid (And.intro hmlt (And.intro hmn hpln))
          clear hA hm0 hpl hpln hGr hgc hwo hFp hrO hrl hmlt hmn
          by_cases h0 : rn = 0
          · subst h0
            have hG0 : G pl = [] := by rw [← HRL.out]; exact List.eq_nil_of_length_eq_zero HRO.out.1
            have HSK := Lib.hid (HA.out.skip HPL.out hG0)
            clear hG0
            go_wp2_with fail
            go_roundw
            case rel => exact ⟨m', G, ids, km, f, F, Ai, ni, ci, rfl, rfl, HSK.out⟩
            case measure => simp [intOf]
          · have dn : ((rn : Int) == 0) = false := by simp; omega
            have hGne : G pl ≠ [] := fun e => h0 (by rw [← HRO.out.1, HRL.out, e]; rfl)
            have HGN := Lib.hid hGne
            clear h0 hGne
            obtain ⟨gf, hAe⟩ : ∃ gf, p.Af = some ⟨gf, 0, none⟩ := by
              rcases HG.out.fl.form with ⟨_, h0, _⟩ | ⟨gf, h0, _⟩
              · have := HMM.out.2.2; omega
              · exact ⟨gf, h0⟩
            obtain ⟨⟨fl, s, t⟩, hp0⟩ : ∃ p0, p.qf[pl]? = some p0 := ⟨_, List.getElem?_eq_getElem (by rw [HG.out.fl.1]; exact HMM.out.2.2)⟩
            have hfl : fs[pl]? = some fl := by rw [← HG.out.flv, List.getElem?_map, hp0]; rfl
            have hfb := (HG.out.fl.2.2 _ (List.mem_of_getElem? hp0)).2.1
            have hwfl := (HG.out.fl.2.2 _ (List.mem_of_getElem? hp0)).1
            have hcl : FlCells wr gf (pl * 11) fl s t := by
              have h1 := HG.out.fl.e HA.out.e
              rw [hAe] at h1
              exact h1.cells hp0
            (try simp only at hfb hwfl)
            rw [hAe] at c0
            obtain ⟨V, hV⟩ : ∃ V, wr.alloc (.cells #[.int .i64 fl.id, .int .i64 fl.step, .int .i64 fl.kind, .int .i64 fl.tick, .int .i64 fl.actor, .int .i64 fl.frm, .int .i64 fl.to, .int .i64 fl.item, .int .i64 fl.n, .slice s.1 s.2.1 s.2.2, .slice t.1 t.2.1 t.2.2] 43) = V := ⟨_, rfl⟩
            have hEV : E wr V := by rw [← hV]; exact (E.refl _).alloc _
            have hBX : FlBox V wr.heap.size fl s t := by rw [← hV]; exact FlBox.new wr fl s t
            have HFL := Lib.hid hfl
            have HWF2 := Lib.hid hwfl
            have HFB := Lib.hid hfb
            obtain ⟨bx, hbx⟩ : ∃ bx, wr.heap.size = bx := ⟨_, rfl⟩
            rw [hbx] at hBX
            have HBXE := Lib.hid hbx
            have HBX := Lib.hid hBX
            have HEV := Lib.hid hEV
            have HAE := Lib.hid hAe
            unfold FlCells at hcl
            obtain ⟨x0, x1, x2, x3, x4, x5, x6, x7, x8, x9, x10⟩ := hcl
            clear hBX hEV hfb hwfl hfl hAe hbx hp0
            go_upto_region 11 with fail
            try rw [hV]
            rw [HBXE.out]
            clear hV x0 x1 x2 x3 x4 x5 x6 x7 x8 x9 x10 co c3 c0 hlk
            obtain ⟨V2, hV2⟩ : ∃ V2, V.alloc (.cells #[.int .i64 fl.id] 3) = V2 := ⟨_, rfl⟩
            have hE2 : E V V2 := by rw [← hV2]; exact (E.refl V).alloc _
            have hb2 : V2.cell? ⟨V.heap.size, 0, none⟩ = some (.int .i64 fl.id) := by rw [← hV2]; exact cell_new _ _ _
            obtain ⟨A2, c2, V3, hrun, hE3', hF3, hO3, hX3, hor3⟩ := ids_push rfl (HA.out.e.trans HEV.out) (HA.out.fam.e HEV.out) (HA.out.own.e HEV.out) hE2 V.heap.size fl.id HWF2.out.1 hb2 (by have h1 := HA.out.own.1; have h2 := HA.out.il; have h3 := HLO.out; have h4 := HSM.out.n; omega) 22
            have b0 := HBX.out.cells.1
            have HE3' := Lib.hid hE3'
            have HF3 := Lib.hid hF3
            have HO3 := Lib.hid hO3
            have HV23 := Lib.hid hE2
            have HX3' := Lib.hid hX3
            have HOR := Lib.hid hor3
            clear hE3' hF3 hO3 hX3 hb2 hE2 hor3
            go_upto_region 12 with (first | (at_builtin; (try rw [hV2]); refine wpList_app_runQ rfl _ _ rfl rfl rfl hrun ?_))
            have hlk3 := HF3.out.look (i := (pl : Int)) trivial HWP.out
            rw [HFP.out] at hlk3
            simp only [slV] at hlk3
            have hR3 : OwnL V3 w1.heap.size rA rn rc rl := by have := HF3.out.rows (pl : Int) trivial; rwa [HFP.out] at this
            have hown : ∀ y ∈ rl, hasF fs y = true ∧ posF fs y.1 = some pl := fun y hy => HA.out.st.own pl y (by rw [← HRL.out]; exact hy)
            have hposs : ∀ y ∈ rl, possB y = true := fun y hy => (hasF_iff.1 (hown y hy).1).1
            have hgl := HA.out.gl pl
            have hSE := spSet_c rA rn rc rl V3 hR3.reads hposs (by
              have h1 := HRO.out.1
              rw [HRL.out] at h1
              have h2 := HLO.out; have h3 := HSM.out.n
              have : (p.ord.length - (m' + 1)) * 5500 ≤ 10 * 5500 := Nat.mul_le_mul_right _ (by omega)
              omega)
            have HSE := Lib.hid hSE
            have HOWN := Lib.hid hown
            have hstn : ((setS rl).flatMap (srcF fs)).length + fl.made.length ≤ 5500 := by
              have h1 := step_cnt HOK.out HFL.out hown
              rw [stepL, List.length_append, List.length_map] at h1
              have h2 := HSM.out.u
              have h3 := HSM.out.m fl (List.mem_of_getElem? HFL.out)
              omega
            have HSTN := Lib.hid hstn
            clear hR3 hown hposs hgl hSE hstn hrun b0 hV2
            go_wp2_with (go_at_call 65; refine HSE.out.mono ?_; rintro e w12 ⟨A12, n12, c12, rfl, hO12, hE12⟩)
            obtain ⟨Z1, hZ1⟩ : ∃ Z1 : Nat → Prop, (fun b => ob Ai = some b ∨ (wr.heap.size ≤ b ∧ b < w12.heap.size)) = Z1 := ⟨_, rfl⟩
            have HZ1i := Lib.hid (fun j => show Z1 j ↔ (ob Ai = some j ∨ (wr.heap.size ≤ j ∧ j < w12.heap.size)) by rw [← hZ1])
            have hI0 : AnI w1.heap.size w1 w12 fs p.ord m' km G (((setS rl).take 0).flatMap (srcF fs)) mb km f F Z1 := by
              have h2 := HA.out.fam.z (Z' := fun j => ob Ai = some j ∨ wr.heap.size ≤ j) (fun j hj => hj)
              have h3 := ((((h2.e HEV.out).e HV23.out).ex HX3'.out (fun j hj => .inl (.inl hj))).e hE12).z (Z' := Z1) (fun j hj => .inl ((HZ1i.out j).1 hj |>.imp id (fun h => h.1)))
              exact ⟨HE3'.out.trans hE12, rfl, h3, fun k q hk hq => (by rw [List.take_zero, List.flatMap_nil, addG_nil]; exact HA.out.vals k q (by omega) hq), Nat.le_add_right _ _⟩
            have HI0 := Lib.hid hI0
            have HO12 := Lib.hid hO12
            have HE12 := Lib.hid hE12
            have hn12 := hO12.reads.n63
            have HZ1b := Lib.hid (show ∀ j, Z1 j → j < w12.heap.size from fun j hj => by
              rcases (HZ1i.out j).1 hj with h | h
              · have h1 := (HA.out.own.ltN j h).2
                have h2 := (HEV.out.trans HV23.out).le
                have h3 := HX3'.out.size
                have h4 := HE12.out.le
                omega
              · exact h.2)
            have HZS := Lib.hid (fun b (hb : ob A12 = some b) => show Z1 b from (HZ1i.out b).2 (.inr ⟨by have := (hO12.ltN b hb).1; have := (HEV.out.trans HV23.out).le; have := HX3'.out.size; omega, (hO12.ltN b hb).2⟩))
            have HBX12 := Lib.hid (show FlBox w12 bx fl s t from (((HBX.out.e HV23.out).ex HX3'.out (fun e => by have := (HA.out.own.ltN _ e).2; have := HBXE.out; omega)).e hE12))
            have HZB := Lib.hid (show Z1 bx from (HZ1i.out bx).2 (.inr ⟨by have := HBXE.out; omega, HBX12.out.lt⟩))
            have HO2 := Lib.hid (HO3.out.e hE12)
            have HZI := Lib.hid (fun b (hb : ob A2 = some b) => show Z1 b from (HZ1i.out b).2 ((HOR.out b hb).imp id (fun h => ⟨by have := (HEV.out.trans HV23.out).le; omega, (HO2.out.ltN b hb).2⟩)))
            clear hZ1 hI0 hO12 hE12
            obtain ⟨S, hS⟩ : ∃ S, setS rl = S := ⟨_, rfl⟩
            rw [hS] at HI0 HO12 HSTN
            have HSH := Lib.hid (show ∀ y ∈ S, hasF fs y = true by rw [← hS]; exact set_has HOK.out (fun y hy => (HOWN.out y hy).1))
            have HSP := Lib.hid (show ∀ y ∈ S, getF fs y.1 = some fl by rw [← hS]; exact set_flow (fun y hy => HOWN.out y hy) HFL.out)
            have HREF := Lib.hid (show ∀ j ∈ refsF fl, ∃ q kq, posF fs j = some q ∧ kq < m' ∧ p.ord[kq]? = some q from fun j hj => by
              obtain ⟨q, hq, hm⟩ := HG.out.topo.topo m' pl fl HPL.out HFL.out j hj
              obtain ⟨kq, hk, hkq⟩ := List.getElem_of_mem hm
              rw [List.length_take] at hk
              rw [List.getElem_take] at hkq
              exact ⟨q, kq, hq, by omega, by rw [← hkq]; exact List.getElem?_eq_getElem (by omega)⟩)
            have HBD := Lib.hid (show (∀ q, (G q).length ≤ 1000000) ∧ km ≤ 1000000 by
              have h1 := HLO.out
              have h2 := HSM.out.n
              have h3 : (p.ord.length - (m' + 1)) * 5500 ≤ 10 * 5500 := Nat.mul_le_mul_right _ (by omega)
              have h4 := HA.out.cnt
              exact ⟨fun q => by have := HA.out.gl q; omega, by omega⟩)
            have HSE2 := Lib.hid hS
            have HSL := Lib.hid HO12.out.1
            clear hS
            have HE1w := Lib.hid (fun W (hX : Ex (fun j => w1.heap.size ≤ j ∧ ¬ Z1 j) w12 W) => show E w1 W from e_ex HI0.out.e hX (fun i hi => hi.1))
            go_loopw [72] (fun ti wr2 => ∃ (a km' : Nat) (f' : Int → Option Value) (F' : Int → LR), a ≤ n12 ∧ ti = .int .i64 a ∧ AnI w1.heap.size w1 wr2 fs p.ord m' km G ((S.take a).flatMap (srcF fs)) mb km' f' F' Z1 ∧ Ex (fun j => w1.heap.size ≤ j ∧ ¬ Z1 j) w12 wr2) (fun ti _ => n12 - (intOf ti).toNat)
            case atStart => exact ⟨0, km, f, F, Nat.zero_le _, rfl, HI0.out, Ex.refl _ _⟩
            case round =>
              clear HI0
              obtain ⟨a, km', f', F', ha, rfl, hI, hX⟩ := hrel
              by_cases hal : a < n12
              · obtain ⟨b4, o4, sL, hA12, hb4, hsL, hwsL, d0, d1, d2⟩ := ((HO12.out.ex hX (fun b hb h => h.2 (HZS.out b hb))).reads).get hal
                have haI : (a : Int) < (n12 : Int) := by omega
                rw [hA12]
                have hhs := HSH.out sL (List.mem_of_getElem? hsL)
                obtain ⟨V4, hV4⟩ : ∃ V4, wr.alloc (.cells #[.int .i64 sL.1, .int .i64 sL.2.1, .int .i64 sL.2.2] 30) = V4 := ⟨_, rfl⟩
                have hE4 : E wr V4 := by rw [← hV4]; exact (E.refl wr).alloc _
                have hx34 := cells3_new wr (.int .i64 sL.1) (.int .i64 sL.2.1) (.int .i64 sL.2.2) 30
                rw [hV4] at hx34
                have HSO := Lib.hid (gsources_c X g fs sL V4 (HGA.out.e ((HE1w.out wr hX).trans hE4)) hwsL hhs)
                unfold ltV at HSO
                have HI := Lib.hid hI
                have HXX := Lib.hid hX
                have HE4 := Lib.hid hE4
                have HSL4 := Lib.hid hsL
                have HHS := Lib.hid hhs
                obtain ⟨e0, e1, e2⟩ := hx34
                clear hI hX hE4 hsL hwsL hhs hA12
                go_upto_region 15 with fail
                try rw [hV4]
                clear hV4 d0 d1 d2
                go_wp2_with (go_at_call 61; refine HSO.out.mono ?_; rintro e w15 ⟨A78, n78, c78, rfl, hO78, hE15⟩)
                clear e0 e1 e2
                obtain ⟨Z2, hZ2⟩ : ∃ Z2 : Nat → Prop, (fun b => Z1 b ∨ (wr.heap.size ≤ b ∧ b < w15.heap.size)) = Z2 := ⟨_, rfl⟩
                have HZ2i := Lib.hid (fun j => show Z2 j ↔ (Z1 j ∨ (wr.heap.size ≤ j ∧ j < w15.heap.size)) by rw [← hZ2])
                have hI0 : AnI w1.heap.size w1 w15 fs p.ord m' km G ((S.take a).flatMap (srcF fs) ++ (srcF fs sL).take 0) mb km' f' F' Z2 := by
                  rw [List.take_zero, List.append_nil]
                  have h2 := HI.out.z (Z' := fun j => Z1 j ∨ wr.heap.size ≤ j) (fun j hj => hj)
                  exact ((h2.e_ HE4.out).e_ hE15).z (fun j hj => .inl ((HZ2i.out j).1 hj |>.imp id (fun h => h.1)))
                have HI0 := Lib.hid hI0
                have HO78 := Lib.hid hO78
                have HZS2 := Lib.hid (fun b (hb : ob A78 = some b) => show Z2 b from (HZ2i.out b).2 (.inr ⟨by have := (hO78.ltN b hb).1; have := HE4.out.le; omega, (hO78.ltN b hb).2⟩))
                have HX15 := Lib.hid (show Ex (fun j => w1.heap.size ≤ j ∧ ¬ Z1 j) w12 w15 from HXX.out.trans (Ex.of_e (X := fun _ => False) (HE4.out.trans hE15)) (fun _ _ x => x) (fun _ _ x => x.elim))
                have hn78 := hO78.reads.n63
                have HL78 := Lib.hid hO78.1
                clear hZ2 hI0 hO78 hE15
                obtain ⟨Q2, hQ2⟩ : ∃ Q2, srcF fs sL = Q2 := ⟨_, rfl⟩
                rw [hQ2] at HI0 HO78 HL78
                have HQ2 := Lib.hid hQ2
                have HQH := Lib.hid (show ∀ y ∈ Q2, hasF fs y = true by rw [← hQ2]; exact srcF_has HOK.out)
                clear hQ2
                have HXR := Lib.hid (show ∀ W, Ex (fun j => w1.heap.size ≤ j ∧ ¬ Z2 j) w15 W → Ex (fun j => w1.heap.size ≤ j ∧ ¬ Z1 j) w12 W from fun W hX => HX15.out.trans hX (fun _ _ h => h) (fun j _ h => ⟨h.1, fun hz => h.2 ((HZ2i.out j).2 (.inl hz))⟩))
                have HRS := Lib.hid (show ∀ y ∈ Q2, ∃ q kq, posF fs y.1 = some q ∧ kq < m' ∧ p.ord[kq]? = some q from fun y hy => HREF.out y.1 (srcF_refs HOK.out (HSP.out sL (List.mem_of_getElem? HSL4.out)) y (by rw [HQ2.out]; exact hy)))
                have HLN := Lib.hid (show ∀ b, ((S.take a).flatMap (srcF fs) ++ Q2.take b).length ≤ 1000000 from fun b => by
                  have h1 := flat_take2 (srcF fs) HSL4.out b
                  rw [HQ2.out] at h1
                  have := HSTN.out
                  omega)
                have HEQ := Lib.hid (show (S.take (a + 1)).flatMap (srcF fs) = (S.take a).flatMap (srcF fs) ++ Q2 by rw [take_snoc HSL4.out, List.flatMap_append]; simp [HQ2.out])
                have HLT := Lib.hid hal
                clear haI hal
                go_loopw [80] (fun ti wr3 => ∃ (b km2 : Nat) (f2 : Int → Option Value) (F2 : Int → LR), b ≤ n78 ∧ ti = .int .i64 b ∧ AnI w1.heap.size w1 wr3 fs p.ord m' km G ((S.take a).flatMap (srcF fs) ++ Q2.take b) mb km2 f2 F2 Z2 ∧ Ex (fun j => w1.heap.size ≤ j ∧ ¬ Z2 j) w15 wr3) (fun ti _ => n78 - (intOf ti).toNat)
                case atStart => exact ⟨0, km', f', F', Nat.zero_le _, rfl, HI0.out, Ex.refl _ _⟩
                case round =>
                  clear HI0
                  obtain ⟨b, km2, f2, F2, hb2, rfl, hI2, hX2⟩ := hrel
                  by_cases hbl : b < n78
                  · obtain ⟨b5, o5, y, hA78, hb5, hyQ, hwy, d0, d1, d2⟩ := ((HO78.out.ex hX2 (fun b hb h => h.2 (HZS2.out b hb))).reads).get hbl
                    have hbI : (b : Int) < (n78 : Int) := by omega
                    rw [hA78]
                    obtain ⟨q, kq, hpq, hkq, hoq⟩ := HRS.out y (List.mem_of_getElem? hyQ)
                    obtain ⟨V5, hV5⟩ : ∃ V5, wr.alloc (.cells #[.int .i64 y.1, .int .i64 y.2.1, .int .i64 y.2.2] 30) = V5 := ⟨_, rfl⟩
                    have hE5 : E wr V5 := by rw [← hV5]; exact (E.refl wr).alloc _
                    have hx35 := cells3_new wr (.int .i64 y.1) (.int .i64 y.2.1) (.int .i64 y.2.2) 30
                    rw [hV5] at hx35
                    have hz5 : wr.heap.size < V5.heap.size := by rw [← hV5]; simp
                    have hG5 := HG.out.e (hI2.e.trans hE5)
                    have hlk := fun m => (hG5.mp.drewN m).look mapIT hwy.1
                    have hlk0 := hG5.mp.look mapIT hwy.1
                    rw [plc_some hpq] at hlk hlk0
                    simp only [Option.getD] at hlk hlk0
                    have c2 := hG5.blk.cells.2.2.1
                    have HI2 := Lib.hid hI2
                    have HX2 := Lib.hid hX2
                    have HE5 := Lib.hid hE5
                    have HY := Lib.hid (And.intro hyQ (And.intro hwy (And.intro hpq (And.intro hkq hoq))))
                    have HQN := Lib.hid (show q < fs.length by obtain ⟨fq, h1, _⟩ := posF_some hpq; exact (List.getElem?_eq_some_iff.1 h1).1)
                    have HX35 := Lib.hid hx35
                    have HZ5 := Lib.hid hz5
                    have HBL := Lib.hid hbl
                    obtain ⟨e0, e1, e2⟩ := hx35
                    clear hI2 hX2 hE5 hyQ hwy hpq hkq hoq hA78 hz5 hG5 hbl
                    go_upto_region 18 with fail
                    try rw [hV5]
                    clear hV5 d0 d1 d2
                    (refine wp_region_quiet_lit (by kernel_rfl) (by kernel_rfl) ?_; (repeat (first | ((with_reducible refine wpQuiet_step (fun K hK => ?_)); go_simp; (with_reducible refine hK _ ?_); clear hK K) | ((with_reducible refine wpQuiet_off (by kernel_rfl) (fun K hK => ?_)); go_simp; (with_reducible refine hK _ ?_); clear hK K))); (with_reducible refine wpQuiet_nil ?_); intro _ hw'; obtain ⟨nq, hw''⟩ := hw'; subst hw'')
                    go_upto_region 19 with fail
                    clear hlk hlk0 c2
                    obtain ⟨U, hU⟩ : ∃ U, V5.drewN nq = U := ⟨_, rfl⟩
                    rw [hU]
                    have hEU5 : E V5 U := by rw [← hU]; exact (E.refl V5).drewN _
                    have hEU : E wr U := HE5.out.trans hEU5
                    have e0 := (hEU5.cell (p := ⟨wr.heap.size, 0, none⟩) HZ5.out).trans HX35.out.1
                    have e1 := (hEU5.cell (p := ⟨wr.heap.size, 1, none⟩) HZ5.out).trans HX35.out.2.1
                    have e2 := (hEU5.cell (p := ⟨wr.heap.size, 2, none⟩) HZ5.out).trans HX35.out.2.2
                    clear hU
                    obtain ⟨V6, hV6⟩ : ∃ V6, U.alloc (.cells #[.int .i64 y.1, .int .i64 y.2.1, .int .i64 y.2.2] 30) = V6 := ⟨_, rfl⟩
                    have hE6 : E U V6 := by rw [← hV6]; exact (E.refl U).alloc _
                    have hL6 : LotsAt V6 (some ⟨U.heap.size, 0, none⟩) 1 1 [y] := by
                      have := lots_box (w := U) HY.out.2.1
                      rwa [hV6] at this
                    have hw15 := HX2.out.size
                    have hub := HI2.out.e.le
                    obtain ⟨rA2, rn2, rc2, A9, c9, W1, W2, hlkf, hrun, hrun2, ⟨f9, F9, hI9⟩, _, hX9⟩ := HI2.out.add HG.out.topo.nd HY.out.2.1 HY.out.2.2.1 HY.out.2.2.2.1 HY.out.2.2.2.2 (by have := HQN.out; have := HSM.out.n; omega) (HBD.out.1 q) (HLN.out b) HBD.out.2 (hEU.trans hE6) (fun hz => by
                      have h1 := hEU.le
                      have h2 := hE6.le
                      have h3 := HX15.out.size
                      rcases (HZ2i.out _).1 hz with hz | hz
                      · have := HZ1b.out _ hz
                        omega
                      · omega) (some ⟨U.heap.size, 0, none⟩) 1 hL6 41
                    have hlkU := hlkf U hEU
                    have HI9 := Lib.hid hI9
                    have HX9 := Lib.hid hX9
                    clear hlkf hI9 hX9 hL6 hw15 hub hE6 hEU hEU5
                    go_wp2_with (at_builtin; (try rw [hV6]); refine wpList_app_runQ rfl _ _ rfl rfl rfl hrun ?_)
                    have hbl := HBL.out
                    go_roundw
                    case rel => exact ⟨b + 1, km2 + 1, f9, F9, by omega, by go_num, by rw [take_snoc HY.out.1, ← List.append_assoc]; exact HI9.out, HX2.out.trans HX9.out (fun _ _ h => h) (fun _ _ h => h)⟩
                    case measure => simp [intOf]; omega
                  · have hbn : b = n78 := by omega
                    have hI3 : AnI w1.heap.size w1 wr fs p.ord m' km G ((S.take (a + 1)).flatMap (srcF fs)) mb km2 f2 F2 Z1 := by
                      rw [HEQ.out]
                      have := hI2.z (Z' := Z1) (fun j hj => .inl ((HZ2i.out j).2 (.inl hj)))
                      rwa [List.take_of_length_le (l := Q2) (by have := HL78.out; omega)] at this
                    have HI3 := Lib.hid hI3
                    have HX3R := Lib.hid (HXR.out wr hX2)
                    have hbI : ¬ ((b : Int) < (n78 : Int)) := by omega
                    have hal := HLT.out
                    clear hI3 hI2 hX2 hbn
                    go_wp2_with fail
                    go_roundw
                    case rel => exact ⟨a + 1, km2, f2, F2, by have := HSL.out; omega, by go_num, HI3.out, HX3R.out⟩
                    case measure => simp [intOf]; omega
              · have hI0 : AnI w1.heap.size w1 wr fs p.ord m' km G (S.flatMap (srcF fs) ++ (fl.made.take 0).map (wholeF fs)) mb km' f' F' Z1 := by
                  rw [List.take_of_length_le (l := S) (by have := HSL.out; omega)] at hI
                  simpa using hI
                have HI0 := Lib.hid hI0
                have HXX := Lib.hid hX
                have haI : ¬ ((a : Int) < (n12 : Int)) := by omega
                obtain ⟨_, _, _, _, _, _, _, _, _, _, x10⟩ := (HBX12.out.ex hX (fun h => h.2 HZB.out)).cells
                simp only [Nat.zero_add] at x10
                have ht63 := HFB.out.2.n63
                have HSLN := Lib.hid (show ∀ c, (S.flatMap (srcF fs) ++ (fl.made.take c).map (wholeF fs)).length ≤ 5500 from fun c => by
                  have := HSTN.out
                  rw [List.length_append, List.length_map, List.length_take]
                  omega)
                clear hI0 hI hX hal ha
                go_wp2_with fail
                clear x10
                go_loopw [104] (fun ti wr4 => ∃ (c km2 : Nat) (f2 : Int → Option Value) (F2 : Int → LR), c ≤ t.2.1 ∧ ti = .int .i64 c ∧ AnI w1.heap.size w1 wr4 fs p.ord m' km G (S.flatMap (srcF fs) ++ (fl.made.take c).map (wholeF fs)) mb km2 f2 F2 Z1 ∧ Ex (fun j => w1.heap.size ≤ j ∧ ¬ Z1 j) w12 wr4) (fun ti _ => t.2.1 - (intOf ti).toNat)
                case atStart => exact ⟨0, km', f', F', Nat.zero_le _, rfl, HI0.out, HXX.out⟩
                case round =>
                  clear HI0 HXX
                  obtain ⟨c, km2, f2, F2, hc, rfl, hI2, hX2⟩ := hrel
                  by_cases hcl : c < t.2.1
                  · obtain ⟨b5, o5, jj, hte, hb5, hjj, hwj, d0⟩ := ((HFB.out.e hI2.e).2).get hcl
                    have hcI : (c : Int) < (t.2.1 : Int) := by omega
                    rw [hte]
                    obtain ⟨q, kq, hpq, hkq, hoq⟩ := HREF.out jj (List.mem_append_right _ (List.mem_of_getElem? hjj))
                    obtain ⟨fq, hfq, hgq, _⟩ := posF_some hpq
                    have hqn : q < fs.length := (List.getElem?_eq_some_iff.1 hfq).1
                    have hqI : (q : Int) < (fs.length : Int) := by omega
                    have hG5 := HG.out.e hI2.e
                    have hlk0 := hG5.mp.look mapIT hwj
                    rw [plc_some hpq] at hlk0
                    simp only [Option.getD] at hlk0
                    have c2 := hG5.blk.cells.2.2.1
                    have hS : ∀ W, E w1 W → W.cell? ⟨g, 0, none⟩ = some (.slice (some ⟨gf, 0, none⟩) fs.length p.cf) ∧ W.cell? ⟨gf, q * 11 + 8, none⟩ = some (.int .i64 fq.n) := fun W hE => by
                      have hGW := HG.out.e hE
                      have h0 := hGW.blk.cells.1
                      rw [HAE.out] at h0
                      refine ⟨h0, ?_⟩
                      obtain ⟨⟨fl', s', t'⟩, hp0⟩ : ∃ p0, p.qf[q]? = some p0 := ⟨_, List.getElem?_eq_getElem (by rw [HG.out.fl.1]; exact hqn)⟩
                      have hfl' : fs[q]? = some fl' := by rw [← HG.out.flv, List.getElem?_map, hp0]; rfl
                      rw [hfq] at hfl'
                      injection hfl' with hfl'
                      subst hfl'
                      have h1 := hGW.fl
                      rw [HAE.out] at h1
                      exact (h1.cells hp0).2.2.2.2.2.2.2.2.1
                    obtain ⟨V3b, hV3b⟩ : ∃ V3, wr.drew.alloc (.cells #[.int .i64 jj, .int .i64 0, .int .i64 fq.n] 30) = V3 := ⟨_, rfl⟩
                    have hE3b : E wr V3b := by rw [← hV3b]; exact ((E.refl wr).drew).alloc _
                    have hwy : WfL (jj, 0, fq.n) := by
                      have := (has_wf HWF.out (whole_has HOK.out hgq)).1
                      rwa [whole_eq hgq] at this
                    have hL3 : LotsAt V3b (some ⟨wr.heap.size, 0, none⟩) 1 1 [(jj, 0, fq.n)] := by
                      have := lots_box (w := wr.drew) hwy
                      simp only at this
                      rw [hV3b] at this
                      exact this
                    obtain ⟨rA2, rn2, rc2, A9, c9, W1, W2, hlkf, hrun, hrun2, ⟨f9, F9, hI9⟩, hX8, hX9⟩ := hI2.add HG.out.topo.nd hwy hpq hkq hoq (by have := HSM.out.n; omega) (HBD.out.1 q) (by have := HSLN.out c; omega) HBD.out.2 hE3b (fun hz => by
                      have h1 := HZ1b.out _ hz
                      have h2 := hX2.size
                      have h3 := hE3b.le
                      omega) (some ⟨wr.heap.size, 0, none⟩) 1 hL3 41
                    have hlka := hlkf _ (E.refl wr).drew
                    have hlkb := hlkf _ hE3b
                    have s0 := hS _ hI2.e.drew
                    have s3 := hS _ (hI2.e.trans hE3b)
                    have s8 := hS _ (e_ex hI2.e hX8 (fun i hi => hi.1))
                    have s9 := hS _ (e_ex hI2.e hX9 (fun i hi => hi.1))
                    have HI9 := Lib.hid (show AnI w1.heap.size w1 W2 fs p.ord m' km G (S.flatMap (srcF fs) ++ (fl.made.take (c + 1)).map (wholeF fs)) mb (km2 + 1) f9 F9 Z1 by
                      rw [take_snoc hjj, List.map_append, ← List.append_assoc]
                      simp only [List.map_cons, List.map_nil, whole_eq hgq]
                      exact hI9)
                    have HX9 := Lib.hid (hX2.trans hX9 (fun _ _ h => h) (fun _ _ h => h))
                    have HCL := Lib.hid hcl
                    clear hlkf hI9 hX8 hX9 hL3 hE3b hwy hS hG5 hX2 hI2 hjj hpq hkq hoq hfq hgq hcl hqn hte
                    go_upto_region 26 with fail
                    clear hlk0 c2 d0
                    refine wp_region_held_drew (S := (fun W => W.cell? ⟨g, 0, none⟩ = some (.slice (some ⟨gf, 0, none⟩) fs.length p.cf) ∧ W.cell? ⟨gf, q * 11 + 8, none⟩ = some (.int .i64 fq.n))) (by kernel_rfl) s0 (fun hHeld => ?_)
                    (((refine wpAnyH_take (i := 0) (v := ?_) rfl (by kernel_rfl) (by kernel_rfl) (by kernel_rfl) (fun _ _ _ h => h) (Or.inl ⟨by kernel_rfl, ?_⟩) (by assumption) ?_); rotate_left 1; (focus (intro w hSw; (try dsimp only at hSw); go_simp; (try with_reducible rfl))); (try simp only [Act.put, sA, sB, sC])); ((refine wpAnyH_take (i := 1) (v := ?_) rfl (by kernel_rfl) (by kernel_rfl) (by kernel_rfl) (fun _ _ _ h => h) (Or.inl ⟨by kernel_rfl, ?_⟩) (by assumption) ?_); rotate_left 1; (focus (intro w hSw; (try dsimp only at hSw); go_simp; (try with_reducible rfl))); (try simp only [Act.put, sA, sB, sC])); ((refine wpAnyH_take (i := 2) (v := ?_) rfl (by kernel_rfl) (by kernel_rfl) (by kernel_rfl) (fun _ _ _ h => h) (Or.inl ⟨by kernel_rfl, ?_⟩) (by assumption) ?_); rotate_left 1; (focus (intro w hSw; (try dsimp only at hSw); go_simp; (try with_reducible rfl))); (try simp only [Act.put, sA, sB, sC])); ((refine wpAnyH_take (i := 3) (v := ?_) rfl (by kernel_rfl) (by kernel_rfl) (by kernel_rfl) (fun _ _ _ h => h) (Or.inl ⟨by kernel_rfl, ?_⟩) (by assumption) ?_); rotate_left 1; (focus (intro w hSw; (try dsimp only at hSw); go_simp; (try with_reducible rfl))); (try simp only [Act.put, sA, sB, sC])); ((refine wpAnyH_take (i := 5) (v := ?_) rfl (by kernel_rfl) (by kernel_rfl) (by kernel_rfl) (fun _ _ _ h => h) (Or.inl ⟨by kernel_rfl, ?_⟩) (by assumption) ?_); rotate_left 1; (focus (intro w hSw; (try dsimp only at hSw); go_simp; (try with_reducible rfl))); (try simp only [Act.put, sA, sB, sC])); ((refine wpAnyH_take (i := 6) (v := ?_) rfl (by kernel_rfl) (by kernel_rfl) (by kernel_rfl) (fun _ _ _ h => h) (Or.inl ⟨by kernel_rfl, ?_⟩) (by assumption) ?_); rotate_left 1; (focus (intro w hSw; (try dsimp only at hSw); go_simp; (try with_reducible rfl))); (try simp only [Act.put, sA, sB, sC])); ((refine wpAnyH_take (i := 7) (v := ?_) rfl (by kernel_rfl) (by kernel_rfl) (by kernel_rfl) (fun _ _ _ h => h) (Or.inl ⟨by kernel_rfl, ?_⟩) (by assumption) ?_); rotate_left 1; (focus (intro w hSw; (try dsimp only at hSw); go_simp; (try with_reducible rfl))); (try simp only [Act.put, sA, sB, sC])); ((refine wpAnyH_take (i := 8) (v := ?_) rfl (by kernel_rfl) (by kernel_rfl) (by kernel_rfl) (fun _ _ _ h => h) (Or.inl ⟨by kernel_rfl, ?_⟩) (by assumption) ?_); rotate_left 1; (focus (intro w hSw; (try dsimp only at hSw); go_simp; (try with_reducible rfl))); (try simp only [Act.put, sA, sB, sC])); ((refine wpAnyH_take (i := 9) (v := ?_) rfl (by kernel_rfl) (by kernel_rfl) (by kernel_rfl) (fun _ _ _ h => h) (Or.inl ⟨by kernel_rfl, ?_⟩) (by assumption) ?_); rotate_left 1; (focus (intro w hSw; (try dsimp only at hSw); go_simp; (try with_reducible rfl))); (try simp only [Act.put, sA, sB, sC])); ((refine wpAnyH_take (i := 10) (v := ?_) rfl (by kernel_rfl) (by kernel_rfl) (by kernel_rfl) (fun _ _ _ h => h) (Or.inl ⟨by kernel_rfl, ?_⟩) (by assumption) ?_); rotate_left 1; (focus (intro w hSw; (try dsimp only at hSw); go_simp; (try with_reducible rfl))); (try simp only [Act.put, sA, sB, sC])); ((refine wpAnyH_take (i := 11) (v := ?_) rfl (by kernel_rfl) (by kernel_rfl) (by kernel_rfl) (fun _ _ _ h => h) (Or.inl ⟨by kernel_rfl, ?_⟩) (by assumption) ?_); rotate_left 1; (focus (intro w hSw; (try dsimp only at hSw); go_simp; (try with_reducible rfl))); (try simp only [Act.put, sA, sB, sC])); ((refine wpAnyH_take (i := 12) (v := ?_) rfl (by kernel_rfl) (by kernel_rfl) (by kernel_rfl) (fun _ _ _ h => h) (Or.inl ⟨by kernel_rfl, ?_⟩) (by assumption) ?_); rotate_left 1; (focus (intro w hSw; (try dsimp only at hSw); go_simp; (try with_reducible rfl))); (try simp only [Act.put, sA, sB, sC])); ((refine wpAnyH_take (i := 13) (v := ?_) rfl (by kernel_rfl) (by kernel_rfl) (by kernel_rfl) (fun _ _ _ h => h) (Or.inl ⟨by kernel_rfl, ?_⟩) (by assumption) ?_); rotate_left 1; (focus (intro w hSw; (try dsimp only at hSw); go_simp; (try with_reducible rfl))); (try simp only [Act.put, sA, sB, sC])); ((refine wpAnyH_take (i := 14) (v := ?_) rfl (by kernel_rfl) (by kernel_rfl) (by kernel_rfl) (fun _ _ _ h => h) (Or.inl ⟨by kernel_rfl, ?_⟩) (by assumption) ?_); rotate_left 1; (focus (intro w hSw; (try dsimp only at hSw); go_simp; (try with_reducible rfl))); (try simp only [Act.put, sA, sB, sC])))
                    clear hHeld
                    refine wpAnyH_ready (rs := [4, 15]) (by kernel_rfl) (by simp) ?_
                    refine AllReadyH.cons rfl (fun K hK => ?_) (AllReadyH.cons rfl (fun K hK => ?_) AllReadyH.nil)
                    · rw [if_pos (by kernel_rfl)]
                      go_simp
                      refine hK _ _ s0 (fun hh => ?_)
                      clear hK K hh
                      (try simp only [Act.put, sA, sB, sC])
                      (((refine wpAnyH_ready (rs := [15]) (by kernel_rfl) (by simp) ?_); (refine AllReadyH.cons rfl (fun K hK => ?_) AllReadyH.nil); (rw [if_pos (by kernel_rfl)]); go_simp))
                      (try rw [hV3b])
                      refine hK _ _ s3 (fun hh => ?_)
                      clear hK K hh
                      (try simp only [Act.put, sA, sB, sC])
                      refine wpAnyH_ready (rs := [16]) (by kernel_rfl) (by simp) ?_
                      refine AllReadyH.cons rfl (fun K hK => ?_) AllReadyH.nil
                      refine step_app_runQ (by rfl) _ _ (by rfl) (by rfl) (by rfl) hrun ?_
                      refine hK _ _ s8 (fun hh => ?_)
                      clear hK K
                      (try simp only [Act.put, sA, sB, sC])
                      (((refine wpAnyH_ready (rs := [17]) (by kernel_rfl) (by simp) ?_); (refine AllReadyH.cons rfl (fun K hK => ?_) AllReadyH.nil); (rw [if_pos (by kernel_rfl)]); go_simp))
                      refine hK _ _ s9 (fun hh2 => ?_)
                      clear hK K hh hh2
                      (try simp only [Act.put, sA, sB, sC])
                      refine wpAnyH_done (by kernel_rfl) ?_ _
                      go_simp
                      clear s0 s3 s8 s9 hlka hlkb hrun hrun2
                      go_wp2_with fail
                      have hcl := HCL.out
                      go_roundw
                      case rel => exact ⟨c + 1, km2 + 1, f9, F9, by omega, by go_num, HI9.out, HX9.out⟩
                      case measure => simp [intOf]; omega
                    · rw [if_pos (by kernel_rfl)]
                      go_simp
                      (try rw [hV3b])
                      refine hK _ _ s3 (fun hh => ?_)
                      clear hK K hh
                      (try simp only [Act.put, sA, sB, sC])
                      (((refine wpAnyH_ready (rs := [4]) (by kernel_rfl) (by simp) ?_); (refine AllReadyH.cons rfl (fun K hK => ?_) AllReadyH.nil); (rw [if_pos (by kernel_rfl)]); go_simp))
                      refine hK _ _ s3 (fun hh => ?_)
                      clear hK K hh
                      (try simp only [Act.put, sA, sB, sC])
                      refine wpAnyH_ready (rs := [16]) (by kernel_rfl) (by simp) ?_
                      refine AllReadyH.cons rfl (fun K hK => ?_) AllReadyH.nil
                      refine step_app_runQ (by rfl) _ _ (by rfl) (by rfl) (by rfl) hrun ?_
                      refine hK _ _ s8 (fun hh => ?_)
                      clear hK K
                      (try simp only [Act.put, sA, sB, sC])
                      (((refine wpAnyH_ready (rs := [17]) (by kernel_rfl) (by simp) ?_); (refine AllReadyH.cons rfl (fun K hK => ?_) AllReadyH.nil); (rw [if_pos (by kernel_rfl)]); go_simp))
                      refine hK _ _ s9 (fun hh2 => ?_)
                      clear hK K hh hh2
                      (try simp only [Act.put, sA, sB, sC])
                      refine wpAnyH_done (by kernel_rfl) ?_ _
                      go_simp
                      clear s0 s3 s8 s9 hlka hlkb hrun hrun2
                      go_wp2_with fail
                      have hcl := HCL.out
                      go_roundw
                      case rel => exact ⟨c + 1, km2 + 1, f9, F9, by omega, by go_num, HI9.out, HX9.out⟩
                      case measure => simp [intOf]; omega
                  · have hct : ¬ ((c : Int) < (t.2.1 : Int)) := by omega
                    have hI3 : AnI w1.heap.size w1 wr fs p.ord m' km G (stepL fs fl (G pl)) mb km2 f2 F2 Z1 := by
                      rw [List.take_of_length_le (l := fl.made) (by have := HFB.out.2.len; omega)] at hI2
                      rw [stepL, ← HRL.out, HSE2.out]
                      exact hI2
                    have HI3 := Lib.hid hI3
                    have HX3R := Lib.hid hX2
                    have HLL := Lib.hid (show (stepL fs fl (G pl)).length ≤ 5500 by
                      have h1 := HSTN.out
                      rw [stepL, ← HRL.out, HSE2.out, List.length_append, List.length_map]
                      exact h1)
                    have hmap := hI3.fam.map
                    clear hI3 hI2 hX2 hcl
                    go_wp2_with (at_delete; refine wpList_delD hmap mapLT rfl _ _ rfl (pl : Int) rfl rfl HWP.out ?_; intro w28 hM28 hG28 hz28)
                    obtain ⟨hF28, hX28⟩ := HI3.out.fam.del (pl : Int) hM28 hG28
                    have hbl := HI3.out.fam.bl
                    have hst := HA.out.step HOK.out HG.out.topo HPL.out HFL.out HGN.out rfl HLL.out (w2 := w28) (mb2 := mb) (km2 := km2) (K0 := km) (Ai2 := A2) (ni2 := ni + 1) (ci2 := c2) (e_ex HI3.out.e hX28 (fun i hi => by subst hi; exact hbl.1)) (hF28.z (fun b hb => .inl (HZI.out b hb))) (fun k q hk hq => by
                        have hne : (q : Int) ≠ (pl : Int) := fun e => by
                          have e' : q = pl := by omega
                          subst e'
                          have h1 := HPL.out
                          have h2 := HG.out.topo.nd
                          obtain ⟨k1, hk1⟩ := List.getElem?_eq_some_iff.1 hq
                          obtain ⟨k2, hk2⟩ := List.getElem?_eq_some_iff.1 h1
                          exact (List.pairwise_iff_getElem.1 h2) k m' k1 k2 hk (hk1.trans hk2.symm)
                        rw [updI_ne _ _ hne]
                        exact HI3.out.vals k q hk hq) ((HO2.out.ex HX3R.out (fun b hb h => h.2 (HZI.out b hb))).ex hX28 (fun b hb e => by subst e; exact hbl.2 (HZI.out _ hb))) HI3.out.cnt
                    have HST2 := Lib.hid hst
                    clear hst hM28 hG28 hz28 hF28 hX28 hmap hbl
                    rw [← HAO.out]
                    go_roundw
                    case rel => exact ⟨m', _, _, _, _, _, _, _, _, rfl, rfl, HST2.out⟩
                    case measure => simp [intOf]
end Go.Proofs.YtmeplpiamkaniaaGreat
