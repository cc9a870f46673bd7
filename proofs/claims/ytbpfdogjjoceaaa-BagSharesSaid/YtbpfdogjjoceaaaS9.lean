/- The comparison that Split sorts by, and the sort. -/
import Derived.Test.YtbpfdogjjoceaaaSg
import Derived.Test.YtbpfdogjjoceaaaS8
import Derived.Test.YtbpfdogjjoceaaaLN
import Derived.Sort.OwnSortedInts
import Derived.Deep.RegionHeld3
namespace Go.Proofs.Ytbpfdogjjoceaaa
open Go.RowKit Go.Sort

def fcmp (rs : List Int) (x y : Nat) : Int := orI (cmpI (rs.getD y 0) (rs.getD x 0)) (cmpI x y)

set_option maxHeartbeats 2000000 in
set_option maxRecDepth 100000 in
theorem splitLess_c (B g n c x y : Nat) (rs : List Int) (W : World) (hB : W.cell? ⟨B, 0, none⟩ = some (.slice (some ⟨g, 0, none⟩) n c)) (hr : Nums .u64 W (some ⟨g, 0, none⟩) n c rs) (hx : x < n) (hy : y < n) :
    Calls Try.prog 69 #[.int .i64 x, .int .i64 y, .pointer (some ⟨B, 0, none⟩)] W fun e w' => e = .returned (.int .i64 (fcmp rs x y)) ∧ ∃ q o, w' = (W.drewN q).alloc o := by
  have hn := hr.n63
  obtain ⟨b1, o1, rx, e1, _, hrx, _, hcx⟩ := hr.get hx
  obtain ⟨b2, o2, ry, e2, _, hry, _, hcy⟩ := hr.get hy
  injection e1 with e1; injection e1 with e1 e1'; subst e1 e1'
  injection e2 with e2; injection e2 with e2 e2'; subst e2 e2'
  rw [Nat.zero_add] at hcx hcy
  have HF := Lib.hid (show fcmp rs x y = orI (cmpI ry rx) (cmpI x y) by unfold fcmp; rw [List.getD_eq_getElem?_getD, List.getD_eq_getElem?_getD, hrx, hry]; rfl)
  generalize fcmp rs x y = v at *
  clear hrx hry hr
  have hxI : (x : Int) < (n : Int) := by omega
  have hyI : (y : Int) < (n : Int) := by omega
  go_enter Try.func69, Try.ntmps69
  go_wp2_with fail
  go_region_held3 (fun w' => w'.cell? ⟨B, 0, none⟩ = some (.slice (some ⟨g, 0, none⟩) n c) ∧ w'.cell? ⟨g, x, none⟩ = some (.int .u64 rx) ∧ w'.cell? ⟨g, y, none⟩ = some (.int .u64 ry)) (go_keep)
    (first
      | (go_at_call 71; refine (cmpU64_c _ _ _).mono ?_; rintro e w' ⟨rfl, rfl⟩)
      | (go_at_call 72; refine (cmpI64_c _ _ _).mono ?_; rintro e w' ⟨rfl, rfl⟩)
      | (go_at_call 70; refine (cmpOr_c _ (cmpI ry rx) (cmpI x y) _ (by simp [World.cell?_alloc_new]) (by simp [World.cell?_alloc_new])).mono ?_; rintro e w' ⟨rfl, rfl⟩))
  all_goals go_wp2_with fail
  all_goals (go_ret; exact ⟨ret_int HF.out.symm, 1, _, rfl⟩)

theorem fcmp_lt (rs : List Int) (x y : Nat) : decide (fcmp rs x y < 0) = prec rs x y := by
  rw [Bool.eq_iff_iff, prec_iff, decide_eq_true_eq]
  unfold fcmp orI cmpI
  generalize rs.getD x 0 = a
  generalize rs.getD y 0 = b
  by_cases h1 : b < a
  · simp [h1]
  · by_cases h2 : a < b
    · rw [if_neg h1, if_pos h2, if_neg (by omega)]; omega
    · rw [if_neg h1, if_neg h2, if_pos rfl]
      have : a = b := by omega
      by_cases h3 : (x : Int) < y
      · rw [if_pos h3]; omega
      · rw [if_neg h3]; split <;> omega
theorem fcmp_swo {n : Nat} (rs : List Int) : SWO (ltOf fun x y : Fin n => fcmp rs x.val y.val) where
  irrefl x := by unfold ltOf; rw [fcmp_lt]; rw [Bool.eq_false_iff, ne_eq, prec_iff]; omega
  trans x y z h1 h2 := by unfold ltOf at *; rw [fcmp_lt, prec_iff] at *; omega
  ntrans x y z h1 h2 := by unfold ltOf at *; rw [fcmp_lt, Bool.eq_false_iff, ne_eq, prec_iff] at *; omega
theorem fcmp_tot {n : Nat} (rs : List Int) (x y : Fin n) (h1 : ltOf (fun x y : Fin n => fcmp rs x.val y.val) x y = false) (h2 : ltOf (fun x y : Fin n => fcmp rs x.val y.val) y x = false) : x = y := by
  unfold ltOf at *; rw [fcmp_lt, Bool.eq_false_iff, ne_eq, prec_iff] at *
  exact Fin.ext (by omega)
def encFin {n : Nat} (i : Fin n) : Value := .int .i64 (i.val : Int)
theorem putRow_fin {n : Nat} [Inhabited (Fin n)] (w : World) (blk off : Nat) (d : Array (Fin n)) : putRow encFin w blk off d = putRow (Value.int .i64) w blk off (d.map fun i => (i.val : Int)) := by
  unfold putRow
  congr 1
  funext c
  unfold putCells
  congr 1
  funext k x
  rw [Array.size_map]
  by_cases h : off ≤ k ∧ k < off + d.size
  · rw [if_pos h, if_pos h, getElem!_pos d (k - off) (by omega), getElem!_pos (d.map fun i => (i.val : Int)) (k - off) (by rw [Array.size_map]; omega)]
    rw [Array.getElem_map]; rfl
  · rw [if_neg h, if_neg h]
theorem sortWorld_fin {n : Nat} [Inhabited (Fin n)] (w : World) (blk off m : Nat) (d : Array (Fin n)) (os : Array Obj) : sortWorld encFin w blk off m d os = grow (putRow (Value.int .i64) (Sort.ahead w m) blk off (d.map fun i => (i.val : Int))) os := by
  unfold sortWorld
  rw [putRow_fin]
theorem ord_fin {n : Nat} {rs : List Int} (hn : rs.length = n) : ((List.finRange n).mergeSort fun x y => !ltOf (fun x y : Fin n => fcmp rs x.val y.val) y x).map (fun i => i.val) = ordL rs := by
  rw [ordL, hn]
  rw [List.map_mergeSort (f := fun i : Fin n => i.val) (s := fun i j => !prec rs j i) (fun a _ b _ => by unfold ltOf; rw [fcmp_lt])]
  congr 1
  apply List.ext_getElem (by simp)
  intro i h1 h2
  simp

theorem nums_grown {k : IntKind} {w w' : World} {g n c gs : Nat} {l : List Int} (h : Nums k w (some ⟨g, 0, none⟩) n c l) (hG : w.grownBy w' (some gs)) (hne : g ≠ gs) : Nums k w' (some ⟨g, 0, none⟩) n c l := by
  refine ⟨h.len, h.cap, h.mx, h.wf, fun hn => ?_⟩
  obtain ⟨b, o, e, h2, h3⟩ := h.at_ hn
  injection e with e; injection e with e e'; subst e e'
  refine ⟨g, 0, rfl, Nat.lt_of_lt_of_le h2 hG.size, fun i hi => ?_⟩
  rw [← h3 i hi]
  exact World.cell?_of_block (hG.block g h2 (fun e => hne (by injection e)))
theorem cell_grown {w w' : World} {g gs o : Nat} {v : Value} (h : w.cell? ⟨g, o, none⟩ = some v) (hG : w.grownBy w' (some gs)) (hne : g ≠ gs) : w'.cell? ⟨g, o, none⟩ = some v := by
  rw [← h]
  exact World.cell?_of_block (hG.block g (World.block_lt_of_cell? w _ h) (fun e => hne (by injection e)))

set_option maxHeartbeats 1000000 in
theorem splitSort_c (B g n c gs cs base : Nat) (rs : List Int) (w : World) (hn0 : 0 < n) (hn1 : n ≤ 1048576) (hB : w.cell? ⟨B, 0, none⟩ = some (.slice (some ⟨g, 0, none⟩) n c)) (hr : Nums .u64 w (some ⟨g, 0, none⟩) n c rs)
    (hO : Own .i64 3 w base (some ⟨gs, 0, none⟩) n cs ((List.range n).map fun i : Nat => (i : Int))) (h1 : B ≠ gs) (h2 : g ≠ gs) :
    Calls Try.prog 68 #[.slice (some ⟨gs, 0, none⟩) n cs, .func (.func 69) #[] #[.pointer (some ⟨B, 0, none⟩)]] w fun e w' =>
      e = .returned (.tuple #[]) ∧ Own .i64 3 w' base (some ⟨gs, 0, none⟩) n cs ((ordL rs).map fun i : Nat => (i : Int)) ∧ w.grownBy w' (some gs) := by
  haveI : Inhabited (Fin n) := ⟨⟨0, hn0⟩⟩
  have hlen := hr.len
  obtain ⟨a1, ⟨_, a2⟩, a3⟩ := hO
  rcases a2 with ⟨hv, _⟩ | ⟨gs', cap, cur, hv, hbase, hh, hnc, hcm, hsz, htk⟩
  · injection hv with e1; cases e1
  injection hv with e1 e2 e3
  injection e1 with e1
  injection e1 with e1
  subst e1 e3
  have hfr : (List.range n).map (fun i : Nat => (i : Int)) = (List.finRange n).map fun i => (i.val : Int) := by
    apply List.ext_getElem (by simp)
    intro i h1 h2
    simp
  have hH : Holds encFin w gs 0 (List.finRange n).toArray := by
    rw [hfr] at htk
    have hb := holds_of_blockI (ss := (List.finRange n).map fun i => (i.val : Int)) hh (by simpa using htk)
    intro j hj
    have hj' : j < n := by simpa using hj
    obtain ⟨x1, x2⟩ := hb j (by simpa using hj')
    refine ⟨x1.trans ?_, x2⟩
    rw [getElem!_pos ((List.finRange n).map fun i => (i.val : Int)).toArray j (by simpa using hj'), getElem!_pos (List.finRange n).toArray j hj]
    simp [encFin]
  have hlt : gs < w.heap.size := (Array.getElem?_eq_some_iff.1 hh).1
  have eg : ∀ args w, (callFunc 69 args).run Try.prog w = .ok (.enter 69 args) w := enters_of Try.func69 (by kernel_rfl) rfl
  have hcmp : CmpLays1 Try.prog 69 #[.pointer (some ⟨B, 0, none⟩)] encFin (fun x y : Fin n => fcmp rs x.val y.val) gs 0 (List.finRange n).toArray.size w := by
    intro m os dk _ x y
    have hG : w.grownBy (sortWorld encFin w gs 0 m dk os) (some gs) := by rw [sortWorld_fin]; exact grownBy_sortedI _
    refine (splitLess_c B g n c x.val y.val rs (sortWorld encFin w gs 0 m dk os) (cell_grown hB hG h1) (nums_grown hr hG h2) x.isLt y.isLt).mono ?_
    rintro e w' ⟨rfl, q, o, rfl⟩
    exact ⟨rfl, q, #[o], alloc_eq_grow _ _⟩
  have hS := Any.slices_SortFunc_total Try.sortFuncI encFin (fun _ => rfl) (fun x y : Fin n => fcmp rs x.val y.val) (fcmp_swo rs) 69 #[.pointer (some ⟨B, 0, none⟩)] gs 0 cs (List.finRange n).toArray w eg hcmp hH hlt (by simp; omega) (fcmp_tot rs)
  change Calls Try.prog 68 _ _ _ at hS
  have hsz' : (List.finRange n).toArray.size = n := by simp
  rw [hsz'] at hS
  refine hS.mono ?_
  rintro e w' ⟨rfl, m, os, rfl⟩
  have hmap : ((List.finRange n).toArray.toList.mergeSort fun x y => !ltOf (fun x y : Fin n => fcmp rs x.val y.val) y x).toArray.map (fun i => (i.val : Int)) = ((ordL rs).map fun i : Nat => (i : Int)).toArray := by
    rw [← ord_fin hlen]
    simp
  rw [sortWorld_fin, hmap]
  refine ⟨rfl, ⟨?_, ?_, ?_⟩, grownBy_sortedI _⟩
  · rw [List.length_map, ordL_len, hlen]
  · have := ownsRow_sortedI (w := w) (base := base) (g := gs) (cap := cs) (n := m) (e := 3) (os := os) (cur := cur) (ss := (List.range n).map fun i : Nat => (i : Int)) (ts := (ordL rs).map fun i : Nat => (i : Int)) (by simp [ordL_len, hlen]) hbase hh (by simpa using hnc) hcm hsz
    simpa using this
  · intro x hx
    simp only [List.mem_map] at hx
    obtain ⟨i, hi, rfl⟩ := hx
    have := ordL_mem.1 hi
    exact wf_of_i64 (by omega) (by omega)
end Go.Proofs.Ytbpfdogjjoceaaa
