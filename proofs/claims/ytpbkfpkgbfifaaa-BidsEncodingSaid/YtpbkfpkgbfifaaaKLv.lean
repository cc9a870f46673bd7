/- The examples of chapter 27; its given. -/
import Derived.Test.YtpbkfpkgbfifaaaKPt
import Derived.Test.YtpbkfpkgbfifaaaKFb
import Derived.Test.YtpbkfpkgbfifaaaKVb
import Derived.Test.YtpbkfpkgbfifaaaKQ
namespace Go.Proofs.Ytpbkfpkgbfifaaa
open Go.RowKit

def exL7 : List Bd := [(1, 5, [0, 1]), (1, 5, [0]), (2, 3, [1]), (3, 2, [2])]
def exM7 : List Bd := [(1, 4, [0, 1]), (1, 5, [0]), (2, 3, [1]), (3, 2, [2])]
theorem pr_all {l : List Bd} (h : ∀ x ∈ l, 0 ≤ x.2.1 ∧ x.2.1 ≤ 1099511627776) (i : Nat) : 0 ≤ pr l i ∧ pr l i ≤ 1099511627776 := by
  unfold pr
  rw [List.getD_eq_getElem?_getD]
  cases hx : l[i]? with
  | none => exact ⟨Int.le_refl _, by show (0 : Int) ≤ _; omega⟩
  | some x => exact h x (List.mem_of_getElem? hx)
theorem ex7_parts : partsF exL7 = [[0, 1, 2], [3]] := by decide
theorem ex7_f1 : feasZ exL7 [1, 2, 3] = true := by decide
theorem ex7_f2 : feasZ exL7 [0, 2] = false := by decide
theorem ex7_v : valZ exL7 [1, 2, 3] = 10 := by decide
theorem ex7_r : redS exL7 = [0, 1, 2, 3] := by decide
theorem ex7_r2 : redS exM7 = [1, 2, 3] := by decide
theorem ex7_ok : validS 3 exM7 = 0 := by decide
def exQ7 (b : Nat) : List (Bd × Sl) := [((1, 5, [0, 1]), some ⟨b, 0, none⟩, 2, 2), ((1, 5, [0]), some ⟨b + 1, 0, none⟩, 1, 1), ((2, 3, [1]), some ⟨b + 1 + 1, 0, none⟩, 1, 1), ((3, 2, [2]), some ⟨b + 1 + 1 + 1, 0, none⟩, 1, 1)]
/-- the example's bids, as they are laid -/
theorem ex_laid7 (w : World) : BRow 50 (((((w.alloc (.cells #[.int .i64 0, .int .i64 1] 3)).alloc (.cells #[.int .i64 0] 3)).alloc (.cells #[.int .i64 1] 3)).alloc (.cells #[.int .i64 2] 3)).alloc
    (.cells #[.int .i64 1, .int .i64 5, .slice (some ⟨w.heap.size, 0, none⟩) 2 2, .int .i64 1, .int .i64 5, .slice (some ⟨w.heap.size + 1, 0, none⟩) 1 1, .int .i64 2, .int .i64 3, .slice (some ⟨w.heap.size + 1 + 1, 0, none⟩) 1 1, .int .i64 3, .int .i64 2, .slice (some ⟨w.heap.size + 1 + 1 + 1, 0, none⟩) 1 1] 50))
    w.heap.size (some ⟨w.heap.size + 1 + 1 + 1 + 1, 0, none⟩) 4 4 (exQ7 w.heap.size) := by
  have hb := heap_alloc_new ((((w.alloc (.cells #[.int .i64 0, .int .i64 1] 3)).alloc (.cells #[.int .i64 0] 3)).alloc (.cells #[.int .i64 1] 3)).alloc (.cells #[.int .i64 2] 3))
    (.cells #[.int .i64 1, .int .i64 5, .slice (some ⟨w.heap.size, 0, none⟩) 2 2, .int .i64 1, .int .i64 5, .slice (some ⟨w.heap.size + 1, 0, none⟩) 1 1, .int .i64 2, .int .i64 3, .slice (some ⟨w.heap.size + 1 + 1, 0, none⟩) 1 1, .int .i64 3, .int .i64 2, .slice (some ⟨w.heap.size + 1 + 1 + 1, 0, none⟩) 1 1] 50)
  rw [World.size_alloc, World.size_alloc, World.size_alloc, World.size_alloc] at hb
  refine ⟨rfl, ⟨rfl, .inr ⟨_, 4, _, rfl, by omega, hb, Nat.le_refl _, by unfold maxLen; omega, rfl, rfl⟩⟩, ?_⟩
  intro p hp
  have h3 := heap_alloc_new (((w.alloc (.cells #[.int .i64 0, .int .i64 1] 3)).alloc (.cells #[.int .i64 0] 3)).alloc (.cells #[.int .i64 1] 3)) (.cells #[.int .i64 2] 3)
  rw [World.size_alloc, World.size_alloc, World.size_alloc] at h3
  have h2 := heap_alloc_new ((w.alloc (.cells #[.int .i64 0, .int .i64 1] 3)).alloc (.cells #[.int .i64 0] 3)) (.cells #[.int .i64 1] 3)
  rw [World.size_alloc, World.size_alloc] at h2
  have h1 := heap_alloc_new (w.alloc (.cells #[.int .i64 0, .int .i64 1] 3)) (.cells #[.int .i64 0] 3)
  rw [World.size_alloc] at h1
  have h0 := heap_alloc_new w (.cells #[.int .i64 0, .int .i64 1] 3)
  have hne : ∀ (b : Nat), b < w.heap.size + 1 + 1 + 1 + 1 → ob (some (⟨b, 0, none⟩ : Addr)) ≠ ob (some (⟨w.heap.size + 1 + 1 + 1 + 1, 0, none⟩ : Addr)) := fun b hb e => by simp [ob] at e; omega
  simp only [exQ7, List.mem_cons, List.not_mem_nil, or_false] at hp
  rcases hp with rfl | rfl | rfl | rfl
  · exact ⟨rfl, rfl, (nums_blk (l := [0, 1]) h0 rfl (by decide) (by decide)).e (((((E.refl _).alloc _).alloc _).alloc _).alloc _), fun _ => hne _ (by omega)⟩
  · exact ⟨rfl, rfl, (nums_blk (l := [0]) h1 rfl (by decide) (by decide)).e ((((E.refl _).alloc _).alloc _).alloc _), fun _ => hne _ (by omega)⟩
  · exact ⟨rfl, rfl, (nums_blk (l := [1]) h2 rfl (by decide) (by decide)).e (((E.refl _).alloc _).alloc _), fun _ => hne _ (by omega)⟩
  · exact ⟨rfl, rfl, (nums_blk (l := [2]) h3 rfl (by decide) (by decide)).e ((E.refl _).alloc _), fun _ => hne _ (by omega)⟩


set_option maxHeartbeats 2000000 in
set_option maxRecDepth 100000 in
theorem given7_c (A : Option Addr) (n c : Nat) (l : List Bd) (w : World) (h : BidsAt w A n c l) (hn : n ≤ 1000000) :
    Calls Try.prog 17 #[.slice A n c] w (RetBids 50 w l) := by
  have hl := h.len
  go_enter Try.func17, Try.ntmps17
  go_wp2_with fail
  go_loopw [3, 4] (fun t3 ti wr => ∃ (k c' : Nat) (A' : Option Addr) (q : List (Bd × Sl)), k ≤ n ∧ ti = .int .i64 k ∧ t3 = .slice A' k c' ∧ BRow 50 wr w.heap.size A' k c' q ∧ E w wr ∧ Hid (q.map Prod.fst = l.take k)) (fun _ ti _ => n - (intOf ti).toNat)
  case atStart => exact ⟨0, 0, none, [], Nat.zero_le _, rfl, rfl, BRow.nil _ _ _, E.refl _, rfl⟩
  case round =>
    obtain ⟨k, c', A', q, hk, rfl, rfl, hR, hE, hq⟩ := hrel
    by_cases hlt : k < n
    · obtain ⟨b, o, x, A1, n1, c1, rfl, hb, hx, hv1, hv2, hN, hcs⟩ := h.item hlt
      obtain ⟨hc1, hc2, hc3⟩ := hcs wr hE
      have HX := Lib.hid (show l.take (k + 1) = l.take k ++ [x] by rw [List.take_add_one, hx]; rfl)
      have hbr : b < wr.heap.size := Nat.lt_of_lt_of_le hb hE.le
      clear hx hcs
      have hRd := hR.e ((E.refl wr).drew)
      have hNd := (hN.e hE).e ((E.refl wr).drew)
      have hle := hE.le
      have hbn := below_ne hN hRd
      have hkI : (k : Int) < (n : Int) := by omega
      go_wp2_with fail
      have hbw : b < w.heap.size := hb
      go_region_held3 (fun w' => w.heap.size ≤ w'.heap.size ∧ ∀ b o, b < w.heap.size → w'.cell? ⟨b, o, none⟩ = wr.cell? ⟨b, o, none⟩)
        (first | exact ⟨hle, fun _ _ _ => rfl⟩ | exact sKeepK (by assumption) ((E.refl _).alloc _) | exact sKeepB' (by assumption) (by assumption))
        ((refine step_appBd bidT (by rfl) _ _ (by rfl) w.heap.size _ _ _ _ (by rfl) (hR.e (by first | exact ((E.refl _).alloc _).drewN _ | exact ((E.refl _).alloc _).drew)) _ (x, A1, n1, c1) (by rfl) (cells3_new _ _ _ _ _) ⟨hv1, hv2, (hN.e hE).e (by first | exact ((E.refl _).alloc _).drewN _ | exact ((E.refl _).alloc _).drew), hbn⟩ (by omega) (by simp; omega) ?_; intro g' c2 w3 hR3 hB3))
      rename_i hHeld
      clear hHeld
      have hB4 : Below w.heap.size wr w3 := ((Below.refl _ _).alloc hle _).trans ⟨hB3.os, hB3.tape, hB3.output, hB3.size, hB3.block⟩
      go_wp2_with fail
      go_roundw
      case rel => exact ⟨k + 1, c2, some ⟨g', 0, none⟩, q ++ [(x, A1, n1, c1)], by omega, by go_num, rfl, hR3, hE.up hB4, show _ = _ by rw [HX.out, List.map_append, hq.out]; rfl⟩
      case measure => simp [intOf]; omega
    · have HF := Lib.hid (show q.map Prod.fst = l by rw [hq.out, List.take_of_length_le (by omega)])
      go_wp2_with fail
      go_ret
      exact ⟨A', k, c', q, rfl, hR, HF.out, hE⟩

set_option maxHeartbeats 4000000 in
set_option maxRecDepth 100000 in
theorem lives27_c (w : World) : Calls Try.prog 19 #[] w (RetK w true) := by
  have hR := ex_laid7 w
  have hE0 : E w (((((w.alloc (.cells #[.int .i64 0, .int .i64 1] 3)).alloc (.cells #[.int .i64 0] 3)).alloc (.cells #[.int .i64 1] 3)).alloc (.cells #[.int .i64 2] 3)).alloc
    (.cells #[.int .i64 1, .int .i64 5, .slice (some ⟨w.heap.size, 0, none⟩) 2 2, .int .i64 1, .int .i64 5, .slice (some ⟨w.heap.size + 1, 0, none⟩) 1 1, .int .i64 2, .int .i64 3, .slice (some ⟨w.heap.size + 1 + 1, 0, none⟩) 1 1, .int .i64 3, .int .i64 2, .slice (some ⟨w.heap.size + 1 + 1 + 1, 0, none⟩) 1 1] 50)) := (((((E.refl w).alloc _).alloc _).alloc _).alloc _).alloc _
  have HR := Lib.hid hR
  have HE0 := Lib.hid hE0
  clear hR hE0
  go_enter Try.func19, Try.ntmps19
  go_wp2_with fail
  have hR := HR.out
  have hE0 := HE0.out
  clear HR HE0
  obtain ⟨B, hB⟩ : ∃ B, w.heap.size + 1 + 1 + 1 + 1 = B := ⟨_, rfl⟩
  have hBg : w.heap.size ≤ B := by omega
  obtain ⟨q, hq⟩ : ∃ q, exQ7 w.heap.size = q := ⟨_, rfl⟩
  have hqf : q.map Prod.fst = exL7 := by rw [← hq]; rfl
  have hq0 : q[0]? = some ((1, 5, [0, 1]), some ⟨w.heap.size, 0, none⟩, 2, 2) := by rw [← hq]; rfl
  rw [hB, hq] at hR
  rw [hB]
  clear hq hB
  generalize (((((w.alloc (.cells #[.int .i64 0, .int .i64 1] 3)).alloc (.cells #[.int .i64 0] 3)).alloc (.cells #[.int .i64 1] 3)).alloc (.cells #[.int .i64 2] 3)).alloc
    (.cells #[.int .i64 1, .int .i64 5, .slice (some ⟨w.heap.size, 0, none⟩) 2 2, .int .i64 1, .int .i64 5, .slice (some ⟨w.heap.size + 1, 0, none⟩) 1 1, .int .i64 2, .int .i64 3, .slice (some ⟨w.heap.size + 1 + 1, 0, none⟩) 1 1, .int .i64 3, .int .i64 2, .slice (some ⟨w.heap.size + 1 + 1 + 1, 0, none⟩) 1 1] 50)) = w5 at *
  have hb5 := hR.bids
  rw [hqf] at hb5
  have HP := parts_c _ _ _ _ _ hb5 (by omega) (by decide)
  rw [ex7_parts] at HP
  refine HP.mono ?_
  rintro e w6 ⟨A6, n6, c6, q6, rfl, hG6, hq6, hE6⟩
  have hr6 := hG6.rows
  rw [hq6] at hr6
  have hn6 : n6 = 2 := hr6.len.symm
  subst hn6
  obtain ⟨b6, o6, x6, Ax, nx, cx, rfl, hb6, hx6, hc6, hN6⟩ := hr6.get (i := 0) (by omega)
  have hnx : nx = 3 := by
    have : [0, 1, 2] = x6 := by simpa [ints] using hx6
    rw [← hN6.len, ← this]; rfl
  subst hnx
  replace hc6 : w6.cell? ⟨b6, o6, none⟩ = some (.slice Ax 3 cx) := hc6
  clear HP hG6 hq6 hx6 hN6 hr6
  have hb6' := hb5.e hE6
  have hR6 := hR.e hE6
  have hEw6 := hE0.trans hE6
  clear hb5 hR hE0 hE6
  have hEa : E w6 (w6.alloc (.cells #[.int .i64 1, .int .i64 2, .int .i64 3] 3)) := (E.refl _).alloc _
  have hNa := nums_blk (l := [1, 2, 3]) (heap_alloc_new w6 (.cells #[.int .i64 1, .int .i64 2, .int .i64 3] 3)) rfl (by decide) (by decide)
  have HF1 := bFeasible_c _ _ _ _ _ _ _ _ _ (hb6'.e hEa) hNa (by decide) (by decide)
  rw [ex7_f1] at HF1
  go_wp2_with fail
  refine HF1.mono ?_
  rintro e w7 ⟨rfl, hE7⟩
  have hE67 := hEa.trans hE7
  have hEb : E w7 (w7.alloc (.cells #[.int .i64 0, .int .i64 2] 3)) := (E.refl _).alloc _
  have hNb := nums_blk (l := [0, 2]) (heap_alloc_new w7 (.cells #[.int .i64 0, .int .i64 2] 3)) rfl (by decide) (by decide)
  have HF2 := bFeasible_c _ _ _ _ _ _ _ _ _ ((hb6'.e hE67).e hEb) hNb (by decide) (by decide)
  rw [ex7_f2] at HF2
  clear HF1 hNa hEa hE7
  go_wp2_with fail
  refine HF2.mono ?_
  rintro e w8 ⟨rfl, hE8⟩
  have hE68 := hE67.trans (hEb.trans hE8)
  have hEc : E w8 (w8.alloc (.cells #[.int .i64 1, .int .i64 2, .int .i64 3] 3)) := (E.refl _).alloc _
  have hNc := nums_blk (l := [1, 2, 3]) (heap_alloc_new w8 (.cells #[.int .i64 1, .int .i64 2, .int .i64 3] 3)) rfl (by decide) (by decide)
  have HV := bValue_c _ _ _ _ _ _ _ _ _ ((hb6'.e hE68).e hEc) hNc (by decide) (fun i => pr_all (by decide) i)
  rw [ex7_v] at HV
  clear HF2 hNb hEb hE8 hE67
  go_wp2_with fail
  refine HV.mono ?_
  rintro e w9 ⟨rfl, hE9⟩
  have hE69 := hE68.trans (hEc.trans hE9)
  have HR1 := reduce_c _ _ _ _ _ (hb6'.e hE69) (by omega)
  rw [ex7_r] at HR1
  clear HV hNc hEc hE9 hE68
  go_wp2_with fail
  refine HR1.mono ?_
  rintro e w10 ⟨A10, n10, c10, rfl, hO10, hE10⟩
  have hn10 : n10 = 4 := hO10.1.symm
  subst hn10
  have hE610 := hE69.trans hE10
  have hc10 := (hE610.cell (p := ⟨b6, o6, none⟩) hb6).trans hc6
  have hR10 := hR6.e hE610
  have hEw10 := hEw6.trans hE610
  clear HR1 hO10 hE10 hE69 hE610 hR6 hEw6 hc6 hb6'
  have hpr := hR10.price hq0 4 rfl
  obtain ⟨cs, hcs⟩ : ∃ cs, w10.heap[B]? = some (.cells cs 50 (0, 0)) := by
    rcases hR10.2.1.2 with ⟨hv, _⟩ | ⟨g, cap, cur, hv, _, hh, _⟩
    · injection hv with hv; cases hv
    · injection hv with hv; injection hv with hv; injection hv with hv; subst hv; exact ⟨_, hh⟩
  have d10 : w10.cell? ⟨B, 1, none⟩ = some (.int .i64 5) := by
    rw [World.ownsRow.cellAt hR10.2.1 1 (by omega)]
    have := (flat3_get q 0 _ hq0).2.1
    simpa using this
  have f10 := frozen_of_row _ _ 1 _ _ hcs
  have hE11 := hEw10.setCell (p := ⟨B, 1, none⟩) hBg (.int .i64 4)
  have hqm : (q.set 0 ((1, 4, [0, 1]), some ⟨w.heap.size, 0, none⟩, 2, 2)).map Prod.fst = exM7 := by rw [List.map_set, hqf]; rfl
  have hb11 := hpr.bids
  rw [hqm] at hb11
  have HR2 := reduce_c _ _ _ _ _ hb11 (by omega)
  rw [ex7_r2] at HR2
  clear hpr hcs
  go_wp2_with fail
  refine HR2.mono ?_
  rintro e w12 ⟨A12, n12, c12, rfl, hO12, hE12⟩
  have hn12 : n12 = 3 := hO12.1.symm
  subst hn12
  have hE012 := hE11.trans hE12
  have HVa := valid_c 3 _ _ _ _ _ (hb11.e hE12) (by omega) (by omega)
  rw [ex7_ok] at HVa
  clear HR2 hO12 hE11 hE12 hqm hR10 d10 f10 hEw10 hb11
  go_wp2_with fail
  refine HVa.mono ?_
  rintro e w13 ⟨rfl, hE13⟩
  go_wp2_with fail
  go_ret
  exact ⟨rfl, hE012.trans hE13⟩
end Go.Proofs.Ytpbkfpkgbfifaaa
