/- best: the search's answer. -/
import Derived.Test.YtpbkfpkgbfifaaaKH
namespace Go.Proofs.Ytpbkfpkgbfifaaa
open Go.RowKit Go.Shelf
attribute [local go_sem] Oper.semAt_some

theorem choices_c (A : Option Addr) (n c Bm : Nat) (w : World) :
    Calls Try.prog 77 #[.slice A n c, .func (.func 78) #[] #[ptr Bm]] w fun e w' => e = .returned (.func (.func 91) #[] #[ptr w.heap.size, ptr (w.heap.size + 1)]) ∧
      w' = (w.alloc (.cells #[.slice A n c] 31)).alloc (.cells #[.func (.func 78) #[] #[ptr Bm]] 82) := by
  unfold ptr
  go_enter Try.func77, Try.ntmps77
  go_wp2_with fail
  go_ret
  exact ⟨rfl, rfl⟩

set_option maxHeartbeats 4000000 in
set_option maxRecDepth 100000 in
theorem best_c (A : Option Addr) (n c : Nat) (l : List Bd) (w : World) (hB : BidsAt w A n c l) (hn : n ≤ 10) (hp : ∀ i, 0 ≤ pr l i ∧ pr l i ≤ 1099511627776) :
    Calls Try.prog 67 #[.slice A n c] w fun e w' => ∃ A' n' c', e = .returned (.tuple #[.slice A' n' c', .int .i64 (bestS l).2]) ∧ Own .i64 3 w' w.heap.size A' n' c' (ints (bestS l).1) ∧ E w w' := by
  refine (callsIn_wide (n := 3)).1 ?_
  refine callsIn_of_wp_marks Try.func67 rfl trivial ?_ rfl
  simp only [Try.ntmps67, List.size_toArray, List.length_cons, List.length_nil, Nat.reduceAdd, Nat.reduceSub, Array.replicate_succ, Array.replicate_zero, List.push_toArray, List.append_toArray, List.nil_append, List.cons_append]
  gi_wp2_with (refine ⟨trivial, ?_⟩; gi_at_call 77; refine (callsIn_wide.2 (choices_c _ _ _ _ _)).mono ?_; rintro e w' ⟨rfl, rfl⟩)
  obtain ⟨w2, hw2⟩ : ∃ w2, ((((w.alloc (.cells #[.slice none 0 0] 22)).alloc (.cells #[.int .i64 0] 3)).alloc (.cells #[.slice A n c] 31)).alloc (.cells #[.func (.func 78) #[] #[ptr (w.heap.size + 1)]] 82)) = w2 := ⟨_, rfl⟩
  have hEw : E w w2 := by rw [← hw2]; exact ((((E.refl w).alloc _).alloc _).alloc _).alloc _
  have hz2 : w2.heap.size = w.heap.size + 4 := by rw [← hw2]; simp
  have hbf : w2.heap[w.heap.size]? = some (.cells #[.slice none 0 0] 22 (0, 0)) := by
    rw [← hw2, Below.heap_alloc _ _ _ (by simp only [World.size_alloc]; omega), Below.heap_alloc _ _ _ (by simp only [World.size_alloc]; omega), Below.heap_alloc _ _ _ (by simp)]; exact heap_alloc_new _ _
  have hbm : w2.heap[w.heap.size + 1]? = some (.cells #[.int .i64 0] 3 (0, 0)) := by
    rw [← hw2, Below.heap_alloc _ _ _ (by simp only [World.size_alloc]; omega), Below.heap_alloc _ _ _ (by simp)]
    have := heap_alloc_new (w.alloc (.cells #[.slice none 0 0] 22)) (.cells #[.int .i64 0] 3)
    rw [World.size_alloc] at this; exact this
  have hbl : w2.heap[w.heap.size + 1 + 1]? = some (.cells #[.slice A n c] 31 (0, 0)) := by
    rw [← hw2, Below.heap_alloc _ _ _ (by simp)]
    have := heap_alloc_new ((w.alloc (.cells #[.slice none 0 0] 22)).alloc (.cells #[.int .i64 0] 3)) (.cells #[.slice A n c] 31)
    rw [World.size_alloc, World.size_alloc] at this; exact this
  have hbe : w2.heap[w.heap.size + 1 + 1 + 1]? = some (.cells #[.func (.func 78) #[] #[ptr (w.heap.size + 1)]] 82 (0, 0)) := by
    rw [← hw2]
    have := heap_alloc_new (((w.alloc (.cells #[.slice none 0 0] 22)).alloc (.cells #[.int .i64 0] 3)).alloc (.cells #[.slice A n c] 31)) (.cells #[.func (.func 78) #[] #[ptr (w.heap.size + 1)]] 82)
    rw [World.size_alloc, World.size_alloc, World.size_alloc] at this; exact this
  rw [hw2]
  clear hw2
  refine wpIn_wide.2 (wp_range (gf := 91) (lb := #[ptr (w.heap.size + 1 + 1), ptr (w.heap.size + 1 + 1 + 1)]) rfl Try.call91
    (Post := fun W' => (∃ A' n' c', W'.heap[w.heap.size]? = some (.cells #[.slice A' n' c'] 22 (0, 0)) ∧ Own .i64 3 W' (w.heap.size + 6) A' n' c' (ints (bestS l).1)) ∧ W'.heap[w.heap.size + 1]? = some (.cells #[.int .i64 (bestS l).2] 3 (0, 0)) ∧ W'.heap[w2.heap.size]? = some (.deferred (some [])) ∧ E w W') ?hit ?done)
  case hit =>
    intro r hr1 hr2 hr3 hr4 hr5 hr6
    obtain ⟨W1, hW1⟩ : ∃ W1, (w2.alloc (.deferred (some []))).alloc (.loop r) = W1 := ⟨_, rfl⟩
    have hE21 : E w2 W1 := by rw [← hW1]; exact ((E.refl _).alloc _).alloc _
    have hz1 : W1.heap.size = w.heap.size + 6 := by rw [← hW1, World.size_alloc, World.size_alloc, hz2]
    have hD1 : W1.heap[w2.heap.size]? = some (.deferred (some [])) := by rw [← hW1, Below.heap_alloc _ _ _ (by simp)]; exact heap_alloc_new _ _
    have hL1 : W1.heap[w2.heap.size + 1]? = some (.loop r) := by
      have := heap_alloc_new (w2.alloc (.deferred (some []))) (.loop r)
      rw [World.size_alloc, hW1] at this; exact this
    rw [hW1]
    clear hW1
    have hC := choices1_c w W1 (w2.heap.size + 1) (w.heap.size + 1 + 1) (w.heap.size + 1 + 1 + 1) w.heap.size (w.heap.size + 1) A n c l (hEw.trans hE21) hB hn hp ((hE21.block (by omega)).trans hbl) ((hE21.block (by omega)).trans hbe) ((hE21.block (by omega)).trans hbf) ((hE21.block (by omega)).trans hbm) (Nat.le_refl _) (by omega) (by omega) ?yy
    case yy =>
      intro W0 b0 Bc hE10 hz0 hBc hBc0 m W Ac cc ch Af nf cf st v hS hchl
      have hLW : W.heap[w2.heap.size + 1]? = some (.loop r) := (hS.ex.block _ (by have := hE10.le; omega) (by omega)).trans ((hE10.block (by omega)).trans hL1)
      have hb0 : b0 ≤ W.heap.size := by have := hS.ex.size; omega
      have h10 := hE10.le
      refine yield_body hLW hr1 hr2 (by rw [hr4]; rfl) (a₁ := { tmps := #[.slice A n c, undef, .slice none 0 0, .int .i64 0, .pointer (some ⟨w.heap.size, 0, none⟩), .pointer (some ⟨w.heap.size + 1, 0, none⟩), .slice Ac ch.length cc, .int .i64 v, .slice A n c, .func (.func 78) #[] #[.pointer (some ⟨w.heap.size + 1, 0, none⟩)], .func (.func 91) #[] #[ptr (w.heap.size + 1 + 1), ptr (w.heap.size + 1 + 1 + 1)], .slice Ac ch.length cc, .int .i64 v, undef, undef, undef, undef, undef, undef, undef, undef], defers := [] }) ?assign ?body
      case assign =>
        intro V K hK
        rw [hr3, hr4, hr5]
        gi_wp2
        exact hK
      case body =>
        obtain ⟨r', hr'⟩ : ∃ r' : Loop, { r with state := .busy } = r' := ⟨_, rfl⟩
        rw [hr', hr6]
        clear hr'
        obtain ⟨L, hL⟩ : ∃ L, w2.heap.size + 1 = L := ⟨_, rfl⟩
        have hLg : w.heap.size + 1 < L := by omega
        have hLb : L < b0 := by omega
        have hBcg : w.heap.size + 1 < Bc := by omega
        rw [hL] at hLW ⊢
        clear hL1 hD1 hE21
        clear hL hz2 hE10 hBc
        have hltL := lt_blk hLW
        have hl3 := hS.cf_
        have vbm : (W.putObj (L) (.loop r')).heap[w.heap.size + 1]? = _ := (World.putObj_heap_other (by omega)).trans hS.bm
        have vbf : (W.putObj (L) (.loop r')).heap[w.heap.size]? = _ := (World.putObj_heap_other (by omega)).trans hS.bf
        have cbm := cell_of_one vbm
        have vco : Own .i64 3 (W.putObj (L) (.loop r')) b0 Ac ch.length cc (ints ch) := hS.co.ex (X := fun i => i = L) ((Ex.refl (fun i => i = L) W).put _ _ (.inr rfl)) (fun b hb e => by have := (hS.co.ltN b hb).1; omega)
        have vL : (W.putObj (L) (.loop r')).heap[L]? = some (.loop r') := World.putObj_heap_same hltL
        by_cases hv : st.2 < v
        · rw [if_pos hv]
          have HF := Lib.hid (fun (V4 : World) (A' : Option Addr) (n' c' : Nat) hE hO => rp_found (r := r) (r' := r') (v := v) hS hb0 (by omega) (by omega) (by omega) (by omega) (by omega) (by omega) (by omega) hLW (V4 := V4) (A' := A') (n' := n') (c' := c') hE hO)
          have HCl := Lib.hid (cloneI_c Ac ch.length cc (ints ch) _ vco.reads (by omega))
          generalize W.putObj (L) (.loop r') = V0 at *
          gi_wp2_with (refine ⟨trivial, (fun h => absurd h (by decide)), ?_⟩; gi_at_call 79; refine (CallsIn.inRound (L) (callsIn_wide.2 HCl.out)).mono ?_; rintro e V4 ⟨A', n', c', rfl, hO4, hE4⟩; have v4f : V4.heap[w.heap.size]? = _ := (hE4.block (lt_blk vbf)).trans vbf; have v4m : V4.heap[w.heap.size + 1]? = _ := (hE4.block (lt_blk vbm)).trans vbm; have c4f := cell_of_one v4f; have f4f := frozen_of_row _ _ 0 _ _ v4f; have c4m := cell_of_one v4m; have f4m := frozen_of_row _ _ 0 _ _ v4m)
          exact HF.out V4 A' n' c' hE4 hO4
        · rw [if_neg hv]
          have HN := Lib.hid (rp_none (r' := r') hS hLW)
          generalize W.putObj L (.loop r') = V0 at *
          gi_wp2
          first | exact ⟨vL, HN.out⟩ | exact HN.out
    refine (show Calls Try.prog 91 (#[.func (.yield (w2.heap.size + 1)) #[] #[]] ++ #[ptr (w.heap.size + 1 + 1), ptr (w.heap.size + 1 + 1 + 1)]) W1 _ from hC).mono ?_
    rintro e W' ⟨hv, W0, b0, Bc, Ac, cc, Af, nf, cf, hE10, hz0, hBc, hS⟩
    have h10 := hE10.le
    have hw0 : E w W0 := (hEw.trans hE21).trans hE10
    have hwz := hEw.le
    refine ⟨hv, (hS.ex.block _ (by omega) (by omega)).trans ((hE10.block (by omega)).trans hL1), ⟨Af, nf, cf, hS.bf, hS.fo.rebase (by omega)⟩, hS.bm, (hS.ex.block _ (by omega) (by omega)).trans ((hE10.block (by omega)).trans hD1), ?_⟩
    exact ⟨hS.ex.os.trans hw0.os, hS.ex.tape.trans hw0.tape, hS.ex.output.trans hw0.output, Nat.le_trans hw0.le hS.ex.size, fun i hi => (hS.ex.block i (by omega) (by omega)).trans (hw0.block hi)⟩
  case done =>
    rintro W' o ⟨⟨A', n', c', hbf', hO'⟩, hbm', hD', hE'⟩ hlt
    have vf : (W'.putObj (w2.heap.size + 1) o).heap[w.heap.size]? = _ := (World.putObj_heap_other (by omega)).trans hbf'
    have vm : (W'.putObj (w2.heap.size + 1) o).heap[w.heap.size + 1]? = _ := (World.putObj_heap_other (by omega)).trans hbm'
    have vD : (W'.putObj (w2.heap.size + 1) o).heap[w2.heap.size]? = _ := (World.putObj_heap_other (by omega)).trans hD'
    have vO : Own .i64 3 (W'.putObj (w2.heap.size + 1) o) (w.heap.size + 6) A' n' c' (ints (bestS l).1) := hO'.ex (X := fun i => i = w2.heap.size + 1) ((Ex.refl (fun i => i = w2.heap.size + 1) W').put _ _ (.inr rfl)) (fun b hb e => by have := (hO'.ltN b hb).1; omega)
    have vE : E w (W'.putObj (w2.heap.size + 1) o) := ((Ex.of_e (X := fun i => i = w2.heap.size + 1) hE').put _ _ (.inr rfl)).e (fun i hi => by omega)
    obtain ⟨V, hV⟩ : ∃ V, W'.putObj (w2.heap.size + 1) o = V := ⟨_, rfl⟩
    obtain ⟨D, hD⟩ : ∃ D, w2.heap.size = D := ⟨_, rfl⟩
    have hDg : w.heap.size + 1 < D := by omega
    have hDg6 : D < w.heap.size + 6 := by omega
    rw [hV] at vf vm vD vO vE ⊢
    rw [hD] at vD ⊢
    have cf := cell_of_one vf
    have cm := cell_of_one vm
    clear hV hD hlt hz2 hbf hbm hbl hbe hbf' hbm' hD' hO' hE'
    gi_wp2
    gi_region
    all_goals gi_wp2
    have vD' : V.drew.heap[D]? = _ := vD
    refine ⟨by simp, .inl ⟨_, _, rfl, run_takeDeferred vD', ?_⟩⟩
    refine ⟨_, results_tmp2 rfl _ _ _, A', n', c', rfl, ?_, ?_⟩
    · exact ((vO.e ((E.refl V).drew)).ex (X := fun i => i = D) ((Ex.refl (fun i => i = D) V.drew).put D _ (.inr rfl)) (fun b hb e => by have := (vO.ltN b hb).1; omega)).rebase (by omega)
    · exact ((Ex.of_e (X := fun i => i = D) vE.drew).put D _ (.inr rfl)).e (fun i hi => by omega)
end Go.Proofs.Ytpbkfpkgbfifaaa
