/- lives. -/
import Derived.Test.YtpbkfpkgbfifaaaKO
namespace Go.Proofs.Ytpbkfpkgbfifaaa
open Go.RowKit

def exL : List Bd := [(1, 6, [0, 1]), (2, 4, [0]), (3, 4, [1]), (4, 2, [1])]
def exM : List Bd := [(1, 8, [0, 1]), (2, 4, [0]), (3, 4, [1]), (4, 2, [1])]
theorem ex_best : bestF 2 exL = ([1, 2], 8, 0) := by decide
theorem ex_best2 : bestF 2 exM = ([0], 8, 0) := by decide
theorem ex_prices : pricesF 2 exL = ([0, 2, 2, 0], 0) := by decide
theorem ex_bound : boundF 2 exL [3, 3] = (8, 0) := by decide

theorem flat3_set : ∀ (q : List (Bd × Sl)) (i : Nat) (p : Bd × Sl) (v : Int), q[i]? = some p → flat3 (q.set i ((p.1.1, v, p.1.2.2), p.2)) = (flat3 q).set (i * 3 + 1) (.int .i64 v)
  | [], i, p, v, h => by simp at h
  | (x, s) :: q, 0, p, v, h => by simp at h; subst h; simp [flat3]
  | (x, s) :: q, i + 1, p, v, h => by
    simp only [List.getElem?_cons_succ] at h
    have := flat3_set q i p v h
    simp only [List.set_cons_succ, flat3, this, show (i + 1) * 3 + 1 = i * 3 + 1 + 3 by omega]
/-- a price is written -/
theorem BRow.price {T : TypeId} {w : World} {base g n c : Nat} {q : List (Bd × Sl)} (h : BRow T w base (some ⟨g, 0, none⟩) n c q) {i : Nat} {p : Bd × Sl} (hi : q[i]? = some p) (v : Int) (hv : (Lit.int .i64 v).wf = true) :
    BRow T (w.setCell ⟨g, i * 3 + 1, none⟩ (.int .i64 v)) base (some ⟨g, 0, none⟩) n c (q.set i ((p.1.1, v, p.1.2.2), p.2)) := by
  obtain ⟨h1, h2, h3⟩ := h
  obtain ⟨g1, g2⟩ := World.ownsRow.stored h2 (i * 3 + 1) (.int .i64 v)
  rw [← flat3_set q i p v hi] at g1
  have key : ∀ r : Bd × Sl, Nums .i64 w r.2.1 r.2.2.1 r.2.2.2 r.1.2.2 → (0 < r.2.2.1 → ob r.2.1 ≠ ob (some (⟨g, 0, none⟩ : Addr))) → Nums .i64 (w.setCell ⟨g, i * 3 + 1, none⟩ (.int .i64 v)) r.2.1 r.2.2.1 r.2.2.2 r.1.2.2 := fun r hr hne => hr.grown g2 hne
  refine ⟨by simpa using h1, g1, fun r hr => ?_⟩
  rcases List.mem_or_eq_of_mem_set hr with hr | hr
  · obtain ⟨a, b, c, d⟩ := h3 r hr
    exact ⟨a, b, key r c d, d⟩
  · obtain ⟨a, b, c, d⟩ := h3 p (List.mem_of_getElem? hi)
    subst hr
    exact ⟨a, hv, key p c d, d⟩
theorem nums_blk {w : World} {b : Nat} {T : TypeId} {fr : Nat × Nat} {l : List Int} {cs : Array Value} (h : w.heap[b]? = some (.cells cs T fr)) (hc : cs.toList = l.map (Value.int .i64)) (hw : ∀ x ∈ l, (Lit.int .i64 x).wf = true) (hm : l.length ≤ maxLen) : Nums .i64 w (some ⟨b, 0, none⟩) l.length l.length l :=
  ⟨rfl, Nat.le_refl _, hm, hw, fun _ => ⟨b, 0, rfl, lt_blk h, fun i hi => by
    rw [Nat.zero_add, cell_of_row _ _ i _ _ _ h, ← Array.getElem?_toList, hc, List.getElem?_map, List.getElem?_eq_getElem hi]; rfl⟩⟩
def exQ (b : Nat) : List (Bd × Sl) := [((1, 6, [0, 1]), some ⟨b, 0, none⟩, 2, 2), ((2, 4, [0]), some ⟨b + 1, 0, none⟩, 1, 1), ((3, 4, [1]), some ⟨b + 1 + 1, 0, none⟩, 1, 1), ((4, 2, [1]), some ⟨b + 1 + 1 + 1, 0, none⟩, 1, 1)]
/-- the example's bids, as they are laid -/
theorem ex_laid (w : World) : BRow 50 (((((w.alloc (.cells #[.int .i64 0, .int .i64 1] 3)).alloc (.cells #[.int .i64 0] 3)).alloc (.cells #[.int .i64 1] 3)).alloc (.cells #[.int .i64 1] 3)).alloc
    (.cells #[.int .i64 1, .int .i64 6, .slice (some ⟨w.heap.size, 0, none⟩) 2 2, .int .i64 2, .int .i64 4, .slice (some ⟨w.heap.size + 1, 0, none⟩) 1 1, .int .i64 3, .int .i64 4, .slice (some ⟨w.heap.size + 1 + 1, 0, none⟩) 1 1, .int .i64 4, .int .i64 2, .slice (some ⟨w.heap.size + 1 + 1 + 1, 0, none⟩) 1 1] 50))
    w.heap.size (some ⟨w.heap.size + 1 + 1 + 1 + 1, 0, none⟩) 4 4 (exQ w.heap.size) := by
  have hb := heap_alloc_new ((((w.alloc (.cells #[.int .i64 0, .int .i64 1] 3)).alloc (.cells #[.int .i64 0] 3)).alloc (.cells #[.int .i64 1] 3)).alloc (.cells #[.int .i64 1] 3))
    (.cells #[.int .i64 1, .int .i64 6, .slice (some ⟨w.heap.size, 0, none⟩) 2 2, .int .i64 2, .int .i64 4, .slice (some ⟨w.heap.size + 1, 0, none⟩) 1 1, .int .i64 3, .int .i64 4, .slice (some ⟨w.heap.size + 1 + 1, 0, none⟩) 1 1, .int .i64 4, .int .i64 2, .slice (some ⟨w.heap.size + 1 + 1 + 1, 0, none⟩) 1 1] 50)
  rw [World.size_alloc, World.size_alloc, World.size_alloc, World.size_alloc] at hb
  refine ⟨rfl, ⟨rfl, .inr ⟨_, 4, _, rfl, by omega, hb, Nat.le_refl _, by unfold maxLen; omega, rfl, rfl⟩⟩, ?_⟩
  intro p hp
  have h3 := heap_alloc_new (((w.alloc (.cells #[.int .i64 0, .int .i64 1] 3)).alloc (.cells #[.int .i64 0] 3)).alloc (.cells #[.int .i64 1] 3)) (.cells #[.int .i64 1] 3)
  rw [World.size_alloc, World.size_alloc, World.size_alloc] at h3
  have h2 := heap_alloc_new ((w.alloc (.cells #[.int .i64 0, .int .i64 1] 3)).alloc (.cells #[.int .i64 0] 3)) (.cells #[.int .i64 1] 3)
  rw [World.size_alloc, World.size_alloc] at h2
  have h1 := heap_alloc_new (w.alloc (.cells #[.int .i64 0, .int .i64 1] 3)) (.cells #[.int .i64 0] 3)
  rw [World.size_alloc] at h1
  have h0 := heap_alloc_new w (.cells #[.int .i64 0, .int .i64 1] 3)
  have hne : ∀ (b : Nat), b < w.heap.size + 1 + 1 + 1 + 1 → ob (some (⟨b, 0, none⟩ : Addr)) ≠ ob (some (⟨w.heap.size + 1 + 1 + 1 + 1, 0, none⟩ : Addr)) := fun b hb e => by simp [ob] at e; omega
  simp only [exQ, List.mem_cons, List.not_mem_nil, or_false] at hp
  rcases hp with rfl | rfl | rfl | rfl
  · exact ⟨rfl, rfl, (nums_blk (l := [0, 1]) h0 rfl (by decide) (by decide)).e (((((E.refl _).alloc _).alloc _).alloc _).alloc _), fun _ => hne _ (by omega)⟩
  · exact ⟨rfl, rfl, (nums_blk (l := [0]) h1 rfl (by decide) (by decide)).e ((((E.refl _).alloc _).alloc _).alloc _), fun _ => hne _ (by omega)⟩
  · exact ⟨rfl, rfl, (nums_blk (l := [1]) h2 rfl (by decide) (by decide)).e (((E.refl _).alloc _).alloc _), fun _ => hne _ (by omega)⟩
  · exact ⟨rfl, rfl, (nums_blk (l := [1]) h3 rfl (by decide) (by decide)).e ((E.refl _).alloc _), fun _ => hne _ (by omega)⟩

set_option maxHeartbeats 4000000 in
set_option maxRecDepth 100000 in
theorem lives28_c (w : World) : Calls Try.prog 50 #[] w (RetK w true) := by
  have hR := ex_laid w
  have hE0 : E w (((((w.alloc (.cells #[.int .i64 0, .int .i64 1] 3)).alloc (.cells #[.int .i64 0] 3)).alloc (.cells #[.int .i64 1] 3)).alloc (.cells #[.int .i64 1] 3)).alloc
    (.cells #[.int .i64 1, .int .i64 6, .slice (some ⟨w.heap.size, 0, none⟩) 2 2, .int .i64 2, .int .i64 4, .slice (some ⟨w.heap.size + 1, 0, none⟩) 1 1, .int .i64 3, .int .i64 4, .slice (some ⟨w.heap.size + 1 + 1, 0, none⟩) 1 1, .int .i64 4, .int .i64 2, .slice (some ⟨w.heap.size + 1 + 1 + 1, 0, none⟩) 1 1] 50)) := (((((E.refl w).alloc _).alloc _).alloc _).alloc _).alloc _
  have HR := Lib.hid hR
  have HE0 := Lib.hid hE0
  clear hR hE0
  go_enter Try.func50, Try.ntmps50
  go_wp2_with fail
  have hR := HR.out
  have hE0 := HE0.out
  clear HR HE0
  obtain ⟨B, hB⟩ : ∃ B, w.heap.size + 1 + 1 + 1 + 1 = B := ⟨_, rfl⟩
  have hBg : w.heap.size ≤ B := by omega
  obtain ⟨q, hq⟩ : ∃ q, exQ w.heap.size = q := ⟨_, rfl⟩
  have hqf : q.map Prod.fst = exL := by rw [← hq]; rfl
  have hq0 : q[0]? = some ((1, 6, [0, 1]), some ⟨w.heap.size, 0, none⟩, 2, 2) := by rw [← hq]; rfl
  rw [hB, hq] at hR
  rw [hB]
  clear hq hB
  generalize (((((w.alloc (.cells #[.int .i64 0, .int .i64 1] 3)).alloc (.cells #[.int .i64 0] 3)).alloc (.cells #[.int .i64 1] 3)).alloc (.cells #[.int .i64 1] 3)).alloc
    (.cells #[.int .i64 1, .int .i64 6, .slice (some ⟨w.heap.size, 0, none⟩) 2 2, .int .i64 2, .int .i64 4, .slice (some ⟨w.heap.size + 1, 0, none⟩) 1 1, .int .i64 3, .int .i64 4, .slice (some ⟨w.heap.size + 1 + 1, 0, none⟩) 1 1, .int .i64 4, .int .i64 2, .slice (some ⟨w.heap.size + 1 + 1 + 1, 0, none⟩) 1 1] 50)) = w5 at *
  have hb5 := hR.bids
  rw [hqf] at hb5
  have HB1 := cBest_c 2 _ _ _ _ _ hb5 (by omega) (by omega)
  rw [ex_best] at HB1
  refine HB1.mono ?_
  rintro e w6 ⟨A6, n6, c6, rfl, hO6, hE6⟩
  have HP1 := cPrices_c 2 _ _ _ _ _ (hb5.e hE6) (by omega) (by omega)
  rw [ex_prices] at HP1
  clear HB1
  go_wp2_with fail
  refine HP1.mono ?_
  rintro e w7 ⟨A7, n7, c7, rfl, hO7, hE7⟩
  clear HP1
  have hE7a : E w7 (w7.alloc (.cells #[.int .i64 3, .int .i64 3] 3)) := (E.refl _).alloc _
  have hN33 := nums_blk (l := [3, 3]) (heap_alloc_new w7 (.cells #[.int .i64 3, .int .i64 3] 3)) rfl (by decide) (by decide)
  have HBo := cBound_c 2 _ _ _ _ _ _ _ _ _ ((hb5.e hE6).e (hE7.trans hE7a)) hN33 (by omega) (by omega)
  rw [ex_bound] at HBo
  go_wp2_with fail
  refine HBo.mono ?_
  rintro e w8 ⟨rfl, hE8⟩
  clear HBo hN33
  have hEx : E w6 w8 := (hE7.trans hE7a).trans hE8
  have hW8 := hO6.reads.e hEx
  have hP8 := hO7.reads.e (hE7a.trans hE8)
  have hR8 := (hR.e hE6).e hEx
  have hE08 := (hE0.trans hE6).trans hEx
  clear hE7a hE8 hE7 hE6 hO6 hO7 hEx hb5 hR hE0
  have hEa : E w8 (w8.alloc (.cells #[.int .i64 1, .int .i64 2] 3)) := (E.refl _).alloc _
  have hNa := nums_blk (l := [1, 2]) (heap_alloc_new w8 (.cells #[.int .i64 1, .int .i64 2] 3)) rfl (by decide) (by decide)
  have HSa := sameInts_e _ _ _ _ _ _ _ _ _ (hW8.e hEa) hNa
  rw [show sameB (ints [1, 2]) [1, 2] = true by decide] at HSa
  go_wp2_with fail
  refine HSa.mono ?_
  rintro e w9 ⟨rfl, hE9⟩
  have hE89 := hEa.trans hE9
  clear HSa hNa hEa hE9 hW8
  have hEb : E w9 (w9.alloc (.cells #[.int .i64 0, .int .i64 2, .int .i64 2, .int .i64 0] 3)) := (E.refl _).alloc _
  have hNb := nums_blk (l := [0, 2, 2, 0]) (heap_alloc_new w9 (.cells #[.int .i64 0, .int .i64 2, .int .i64 2, .int .i64 0] 3)) rfl (by decide) (by decide)
  have HSb := sameInts_e _ _ _ _ _ _ _ _ _ ((hP8.e hE89).e hEb) hNb
  rw [show sameB [0, 2, 2, 0] [0, 2, 2, 0] = true by decide] at HSb
  go_wp2_with fail
  refine HSb.mono ?_
  rintro e w10 ⟨rfl, hE10⟩
  have hE810 := hE89.trans (hEb.trans hE10)
  clear HSb hNb hEb hE10 hP8 hE89
  have hR10 := hR8.e hE810
  have hEw10 := hE08.trans hE810
  clear hR8 hE810 hE08
  have hpr := hR10.price hq0 8 rfl
  obtain ⟨cs, hcs⟩ : ∃ cs, w10.heap[B]? = some (.cells cs 50 (0, 0)) := by
    rcases hR10.2.1.2 with ⟨hv, _⟩ | ⟨g, cap, cur, hv, _, hh, _⟩
    · injection hv with hv; cases hv
    · injection hv with hv; injection hv with hv; injection hv with hv; subst hv; exact ⟨_, hh⟩
  have c10 : w10.cell? ⟨B, 1, none⟩ = some (.int .i64 6) := by
    rw [World.ownsRow.cellAt hR10.2.1 1 (by omega)]
    have := (flat3_get q 0 _ hq0).2.1
    simpa using this
  have f10 := frozen_of_row _ _ 1 _ _ hcs
  have hE11 := hEw10.setCell (p := ⟨B, 1, none⟩) hBg (.int .i64 8)
  have hqm : (q.set 0 ((1, 8, [0, 1]), some ⟨w.heap.size, 0, none⟩, 2, 2)).map Prod.fst = exM := by rw [List.map_set, hqf]; rfl
  have hb11 := hpr.bids
  rw [hqm] at hb11
  have HB2 := cBest_c 2 _ _ _ _ _ hb11 (by omega) (by omega)
  rw [ex_best2] at HB2
  clear hpr hcs
  go_wp2_with fail
  refine HB2.mono ?_
  rintro e w12 ⟨A12, n12, c12, rfl, hO12, hE12⟩
  have hE012 := hE11.trans hE12
  clear HB2 hb11 hE11 hE12 hqm hR10 c10 f10 hEw10
  have hEc : E w12 (w12.alloc (.cells #[.int .i64 0] 3)) := (E.refl _).alloc _
  have hNc := nums_blk (l := [0]) (heap_alloc_new w12 (.cells #[.int .i64 0] 3)) rfl (by decide) (by decide)
  have HSc := sameInts_e _ _ _ _ _ _ _ _ _ (hO12.reads.e hEc) hNc
  rw [show sameB (ints [0]) [0] = true by decide] at HSc
  go_wp2_with fail
  refine HSc.mono ?_
  rintro e w13 ⟨rfl, hE13⟩
  go_wp2_with fail
  go_ret
  exact ⟨rfl, (hE012.trans hEc).trans hE13⟩
end Go.Proofs.Ytpbkfpkgbfifaaa
