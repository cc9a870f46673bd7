/- lives of package bag's statements. -/
import Derived.Test.YtbpfdogjjoceaaaN
namespace Go.Proofs.Ytbpfdogjjoceaaa
open Go.RowKit

theorem nums_lit (k : IntKind) (w : World) (T : TypeId) (l : List Int) (hw : ∀ x ∈ l, (Lit.int k x).wf = true) (hl : l.length ≤ 1000) :
    Nums k (w.alloc (.cells (l.map (Value.int k)).toArray T)) (some ⟨w.heap.size, 0, none⟩) l.length l.length l := by
  refine ⟨rfl, Nat.le_refl _, by unfold maxLen; omega, hw, fun _ => ⟨w.heap.size, 0, rfl, by simp, fun i hi => ?_⟩⟩
  rw [cell_of_row _ w.heap.size _ _ _ _ (heap_alloc_new w _)]
  simp [hi]
theorem nums_lit' (k : IntKind) (w : World) (T : TypeId) (l : List Int) (g : Nat) (hg : w.heap.size = g) (hw : ∀ x ∈ l, (Lit.int k x).wf = true) (hl : l.length ≤ 1000) :
    Nums k (w.alloc (.cells (l.map (Value.int k)).toArray T)) (some ⟨g, 0, none⟩) l.length l.length l := hg ▸ nums_lit k w T l hw hl
theorem pairs_lit (w : World) (T : TypeId) (l : List (Int × Int)) (hw : ∀ x ∈ l, (Lit.int .i64 x.1).wf = true ∧ (Lit.int .i64 x.2).wf = true) (hl : l.length ≤ 1000) :
    Pairs (w.alloc (.cells (flat2 l).toArray T)) (some ⟨w.heap.size, 0, none⟩) l.length l.length l := by
  refine ⟨rfl, Nat.le_refl _, by unfold maxLen; omega, hw, fun _ => ⟨w.heap.size, 0, rfl, by simp, fun i hi => ?_⟩⟩
  have hf := flat2_at l i _ (List.getElem?_eq_getElem hi)
  rw [cell_of_row _ w.heap.size _ _ _ _ (heap_alloc_new w _), cell_of_row _ w.heap.size _ _ _ _ (heap_alloc_new w _)]
  simp only [Nat.zero_add, List.getElem?_toArray]
  exact hf

theorem lv_of : ofS 3 [(1, 2), (0, 5)] = ([5, 2, 0], 0) := by decide +kernel
theorem lv_most : mostB [5, 2, 0] [2, 1, 0] = 2 := by decide +kernel
theorem lv_times : timesS [2, 1, 0] 2 = ([4, 2, 0], 0) := by decide +kernel
theorem lv_sub : subS [5, 2, 0] [4, 2, 0] = ([1, 0, 0], 0) := by decide +kernel
theorem lv_enc : encodeS [5, 2, 0] = [6, 4, 0, 10, 2, 4] := by
  have e1 : isBagB [5, 2, 0] = true := by decide +kernel
  have e2 : amountsS [5, 2, 0] = [(0, 5), (1, 2)] := by decide +kernel
  rw [encodeS, e1, e2]
  simp [encF, zig, uv_small]

set_option maxHeartbeats 2000000 in
theorem lives_c (w : World) : Calls Try.prog 19 #[] w (RetB w true) := by
  have hlit1 := pairs_lit w 67 [(1, 2), (0, 5)] (by decide) (by decide)
  go_enter Try.func19, Try.ntmps19
  go_wp2_with fail
  refine (of_c 3 _ _ _ _ _ hlit1).mono ?_
  rintro e w1 ⟨A1, n1, c1, rfl, hO1, hE1⟩
  rw [lv_of] at hO1 ⊢
  have hE1' := ((E.refl w).alloc _).trans hE1
  go_wp2_with fail
  have r1 := hO1.reads.e ((E.refl w1).alloc (.cells #[.int .i64 2, .int .i64 1, .int .i64 0] 3))
  refine (most_c _ _ _ _ _ _ _ _ _ r1 (nums_lit .i64 w1 3 [2, 1, 0] (by decide) (by decide))).mono ?_
  rintro e w' ⟨rfl, rfl⟩
  simp only [lv_most]
  go_wp2_with fail
  have hEa := (E.refl w1).alloc (.cells #[.int .i64 2, .int .i64 1, .int .i64 0] 3)
  have hEb := hEa.alloc (.cells #[.int .i64 2, .int .i64 1, .int .i64 0] 3)
  refine (times_c _ _ _ _ 2 _ (nums_lit' .i64 _ 3 [2, 1, 0] _ (by simp) (by decide) (by decide))).mono ?_
  rintro e w2 ⟨A2, n2, c2, rfl, hO2, hE2⟩
  rw [lv_times] at hO2 ⊢
  have hE2' := hEb.trans hE2
  have r1 := hO1.reads.e hE2'
  have r2 := hO2.reads
  go_wp2_with fail
  refine (sub_c _ _ _ _ _ _ _ _ _ r1 r2).mono ?_
  rintro e w3 ⟨A3, n3, c3, rfl, hO3, hE3⟩
  rw [lv_sub] at hO3 ⊢
  replace r1 := r1.e hE3
  go_wp2_with fail
  refine (encode_c _ _ _ _ _ r1).mono ?_
  rintro e w4 ⟨A4, n4, c4, rfl, hO4, hE4⟩
  rw [lv_enc] at hO4
  have hEall := (hE1'.trans hE2').trans (hE3.trans hE4)
  have q1 := r1.e hE4
  have q3 := hO3.reads.e hE4
  have q4 := hO4.reads
  clear r1 r2 hO1 hO2 hO3 hO4 hE1 hE1' hE2 hE2' hE3 hE4 hEa hEb hlit1
  go_wp2_with fail
  refine (same_c _ _ _ _ _ _ _ _ _ (q1.e ((E.refl _).alloc _)) (nums_lit' .i64 _ 3 [5, 2, 0] _ (by simp) (by decide) (by decide))).mono ?_
  rintro e w5 ⟨rfl, m5, rfl⟩
  rw [show sameB [5, 2, 0] [5, 2, 0] = true from by decide]
  go_wp2_with fail
  refine (same_c _ _ _ _ _ _ _ _ _ (q3.e ((((E.refl _).alloc _).drewN _).alloc _)) (nums_lit' .i64 _ 3 [1, 0, 0] _ (by simp) (by decide) (by decide))).mono ?_
  rintro e w6 ⟨rfl, m6, rfl⟩
  rw [show sameB [1, 0, 0] [1, 0, 0] = true from by decide]
  go_wp2_with fail
  refine (bytesAre_c _ _ _ _ _ _ _ _ _ (q4.e ((((((E.refl _).alloc _).drewN _).alloc _).drewN _).alloc _)) (nums_lit' .u8 _ 5 [6, 4, 0, 10, 2, 4] _ (by simp) (by decide) (by decide))).mono ?_
  rintro e w' ⟨rfl, rfl⟩
  rw [show sameB [6, 4, 0, 10, 2, 4] [6, 4, 0, 10, 2, 4] = true from by decide]
  go_wp2
  go_ret
  exact ⟨rfl, hEall.trans ((((((E.refl _).alloc _).drewN _).alloc _).drewN _).alloc _)⟩
end Go.Proofs.Ytbpfdogjjoceaaa
