/- Lemmas of the claim, joined: TE TF TG TH TI TJ TK. No condition. -/
import Derived.Test.YtgbamgijpgjmgaaBA
/- put, Append: a lot behind a row of the call's own; Put; their models. -/
namespace Go.Proofs.Ytgbamgijpgjmgaa
open Go.RowKit

theorem grown_e {w wX w3 : World} {r : Option Nat} (hE : E w wX) (hG : wX.grownBy w3 r) : w.grownBy w3 r :=
  ⟨hG.os.trans hE.os, hG.tape.trans hE.tape, hG.output.trans hE.output, Nat.le_trans hE.le hG.size, fun k hk hne => (hG.block k (Nat.lt_of_lt_of_le hk hE.le) hne).trans (hE.block hk)⟩
theorem grown_drew {w w' : World} {r : Option Nat} (h : w.grownBy w' r) : w.grownBy w'.drew r := ⟨h.os, h.tape, h.output, h.size, h.block⟩
theorem retPut_of {w wX w3 : World} {base : Nat} {A A' : Option Addr} {n' c' : Nat} {l l' : List Lt} (hE : E w wX) (hO : OwnL w3 base A' n' c' l') (hG : wX.grownBy w3 (ob A)) (hor : ob A' = ob A ∨ ob A' = some wX.heap.size) (hl : l = l') : RetPut w base A l (.returned (.slice A' n' c')) w3 := by
  subst hl
  refine ⟨A', n', c', rfl, hO, grown_e hE hG, ?_⟩
  rcases hor with h | h
  · exact .inl h
  · exact .inr fun b hb => by rw [h] at hb; injection hb with hb; have := hE.le; omega

set_option maxHeartbeats 2000000 in
set_option maxRecDepth 100000 in
theorem put_c (x : Lt) (A : Option Addr) (n c base : Nat) (l : List Lt) (w : World) (h : OwnL w base A n c l) (hl : ∀ y ∈ l, possB y = true) (hx : x.2.2 ≠ 0 → possB x = true) (hxw : WfL x) (hb : base ≤ w.heap.size) (hn : n ≤ 1000000) :
    Calls Try.prog 58 #[.slice A n c, ltV x] w (RetPut w base A (addL l x)) := by
  by_cases h0 : x.2.2 = 0
  · have HF := Lib.hid (addL_zero (s := l) h0)
    obtain ⟨f, a, m⟩ := x
    simp only at h0
    subst h0
    unfold ltV
    go_enter Try.func58, Try.ntmps58
    go_wp2
    go_ret
    exact ⟨A, n, c, rfl, by rw [HF.out]; exact h.e ((E.refl w).alloc _), World.grownBy_alloc w _ _, .inl rfl⟩
  · have hpx := hx h0
    obtain ⟨w1, hw1⟩ : ∃ w1, w.alloc (.cells #[.int .i64 x.1, .int .i64 x.2.1, .int .i64 x.2.2] 39) = w1 := ⟨_, rfl⟩
    have hE1 : E w w1 := by rw [← hw1]; exact (E.refl w).alloc _
    have hz1 : w1.heap.size = w.heap.size + 1 := by rw [← hw1]; simp
    have hB1 : LotsAt w1 (some ⟨w.heap.size, 0, none⟩) 1 1 [x] := by rw [← hw1]; exact lot_new hxw
    have hG1 : w.grownBy w1 (ob A) := by rw [← hw1]; exact World.grownBy_alloc w _ _
    obtain ⟨_, _, _, e1, hbb, e2, _, d0, d1, d2⟩ := hB1.get (i := 0) (by omega)
    injection e1 with e1; injection e1 with e1 e1'; subst e1 e1'
    simp at e2; subst e2
    simp only [Nat.zero_mul, Nat.zero_add] at d0 d1 d2
    have hO1 := h.e hE1
    have HW1 := Lib.hid hw1
    clear hw1
    have hb0 : (x.2.2 == 0) = false := by simpa using h0
    have HL := Lib.hid hl
    have HB1 := Lib.hid hB1
    have HG1 := Lib.hid hG1
    have HO1 := Lib.hid hO1
    have HP := Lib.hid hpx
    clear hl hB1 hG1 hO1 hpx hx
    rcases snoc_cases l with rfl | ⟨s, p, rfl⟩
    · have HF := Lib.hid (addL_nil h0)
      obtain rfl : n = 0 := by have := h.1; simpa using this.symm
      clear hz1 h
      obtain ⟨f, a, m⟩ := x
      unfold ltV
      simp only at hb0 d0 d1 d2 HW1 HF
      clear h0
      go_enter Try.func58, Try.ntmps58
      go_upto_region 4 with fail
      rw [HW1.out]
      clear HW1
      (refine wp_region_quiet_lit (by kernel_rfl) (by kernel_rfl) ?_; (repeat (first | ((with_reducible refine wpQuiet_step (fun K hK => ?_)); go_simp; (with_reducible refine hK _ ?_); clear hK K) | ((with_reducible refine wpQuiet_off (by kernel_rfl) (fun K hK => ?_)); go_simp; (with_reducible refine hK _ ?_); clear hK K))); (with_reducible refine wpQuiet_nil ?_); intro _ hw'; obtain ⟨nq, hw''⟩ := hw'; subst hw'')
      have hEX : E w (w1.drewN nq) := hE1.drewN nq
      have hO2 := HO1.out.e ((E.of_q ((Q.refl w1).drewN nq)).alloc (.cells #[.int .i64 f, .int .i64 a, .int .i64 m] 39))
      have hb2 : base ≤ ((w1.drewN nq).alloc (.cells #[.int .i64 f, .int .i64 a, .int .i64 m] 39)).heap.size := by rw [World.size_alloc]; have := hEX.le; omega
      have hL2 := lot_new (w := w1.drewN nq) hxw
      go_wp2_with (at_builtin; refine wpList_appL _ rfl _ _ rfl base _ _ _ _ rfl hO2 _ 1 1 [(f, a, m)] rfl hL2 (by omega) hb2 ?_; intro A' c' w3 hO3 hG3 hB3 hor3)
      go_ret
      exact retPut_of (hEX.alloc _) hO3 hG3 hor3 (by rw [HF.out]; rfl)
    · obtain ⟨k, hnk⟩ : ∃ k, n = k + 1 := ⟨s.length, by have := h.1; simpa using this.symm⟩
      obtain ⟨hk, g, rfl, hbg, hg, hpw, p0, p1, p2, pf⟩ := lots_last (k := k) (by rw [← hnk]; exact HO1.out)
      have hgw : g < w.heap.size := (h.ltN g rfl).2
      have hp : possB p = true := HL.out p (by simp)
      by_cases hc : contB p x = true
      · have HF := Lib.hid (addL_join (s := s) h0 hc)
        have HC := Lib.hid (fun W => continues_c x p W HP.out hp)
        rw [hc] at HC
        obtain ⟨f, a, m⟩ := x
        obtain ⟨fp, ap, np⟩ := p
        unfold ltV at *
        simp only at hb0 d0 d1 d2 HW1 HF p0 p1 p2
        have hkI : (k : Int) < (n : Int) := by omega
        have hk0 : (0 : Int) ≤ (k : Int) := by omega
        have HN0 := Lib.hid (show (0 : Int) < (n : Int) by omega)
        have hn1 : IntKind.i64.wrap ((n : Int) - 1) = (k : Int) := by rw [IntKind.wrap_i64]; omega
        have HNK := Lib.hid hnk
        clear h0 h hz1 hc hp hnk
        go_enter Try.func58, Try.ntmps58
        go_upto_region 4 with fail
        rw [HW1.out]
        clear HW1
        have dn : decide (0 < n) = true := by have := HN0.out; simp; omega
        go_region_held3 (fun w' => w1.heap.size ≤ w'.heap.size ∧ ∀ b o, b < w1.heap.size → w'.cell? ⟨b, o, none⟩ = w1.cell? ⟨b, o, none⟩) (first | exact keepE ((E.refl _).drew) | exact keepE hEa)
          (first | (go_at_call 83; refine (HC.out _).mono ?_; rintro e wa ⟨rfl, hE4⟩; have hEa := ((E.refl w1).drew).trans hE4))
        rename_i hHd
        clear hHd
        clear p0 p1 p2 pf d0 d1 d2
        obtain ⟨_, g', e', _, _, _, p0, p1, p2, pf⟩ := lots_last (k := k) (by rw [← HNK.out]; exact HO1.out.e hEa)
        injection e' with e'; injection e' with e'; subst e'
        obtain ⟨_, _, _, e1, hbb2, e2, _, d0, d1, d2⟩ := (HB1.out.e hEa).get (i := 0) (by omega)
        injection e1 with e1; injection e1 with e1 e1'; subst e1 e1'
        simp at e2; subst e2
        simp only [Nat.zero_mul, Nat.zero_add] at d0 d1 d2 p0 p1 p2
        have HO4 := HO1.out.e hEa
        have HX := possB_iff.1 HP.out
        have HPp := possB_iff.1 (HL.out (fp, ap, np) (by simp))
        simp only at HX HPp
        have hwr2 : IntKind.i64.wrap (np + m) = np + m := by rw [IntKind.wrap_i64]; omega
        have hSet := HO4.setN (i := k) (x := (fp, ap, np)) (y := (fp, ap, np + m)) (by rw [← hk]; exact last_get _ _) rfl rfl (wf_of_i64 (by show _ ≤ np + m; omega) (by show np + m ≤ _; omega))
        have hlast : (s ++ [(fp, ap, np)]).set k (fp, ap, np + m) = s ++ [(fp, ap, np + m)] := by rw [← hk]; exact set_last _ _ _
        rw [hlast] at hSet
        have HSet := Lib.hid hSet
        have HEa := Lib.hid (hE1.trans hEa)
        clear HO1 HB1 HL HO4 HX HPp hSet hlast HC
        go_wp2_with fail
        go_region
        all_goals go_wp2_with fail
        go_ret
        exact ⟨_, n, c, rfl, by rw [HF.out]; exact HSet.out.1.e ((E.refl _).drew), grown_e HEa.out (grown_drew HSet.out.2), .inl rfl⟩
      · have hc : contB p x = false := by simpa using hc
        have HF := Lib.hid (addL_new (s := s) h0 hc)
        have HC := Lib.hid (fun W => continues_c x p W HP.out hp)
        rw [hc] at HC
        obtain ⟨f, a, m⟩ := x
        obtain ⟨fp, ap, np⟩ := p
        unfold ltV at *
        simp only at hb0 d0 d1 d2 HW1 HF p0 p1 p2
        have hkI : (k : Int) < (n : Int) := by omega
        have hk0 : (0 : Int) ≤ (k : Int) := by omega
        have HN0 := Lib.hid (show (0 : Int) < (n : Int) by omega)
        have hn1 : IntKind.i64.wrap ((n : Int) - 1) = (k : Int) := by rw [IntKind.wrap_i64]; omega
        have HNK := Lib.hid hnk
        clear h0 h hz1 hc hp hnk
        go_enter Try.func58, Try.ntmps58
        go_upto_region 4 with fail
        rw [HW1.out]
        clear HW1
        have dn : decide (0 < n) = true := by have := HN0.out; simp; omega
        go_region_held3 (fun w' => w1.heap.size ≤ w'.heap.size ∧ ∀ b o, b < w1.heap.size → w'.cell? ⟨b, o, none⟩ = w1.cell? ⟨b, o, none⟩) (first | exact keepE ((E.refl _).drew) | exact keepE hEa)
          (first | (go_at_call 83; refine (HC.out _).mono ?_; rintro e wa ⟨rfl, hE4⟩; have hEa := ((E.refl w1).drew).trans hE4))
        rename_i hHd
        clear hHd
        have hO2 := HO1.out.e (hEa.alloc (.cells #[.int .i64 f, .int .i64 a, .int .i64 m] 39))
        have hb2 : base ≤ (wa.alloc (.cells #[.int .i64 f, .int .i64 a, .int .i64 m] 39)).heap.size := by rw [World.size_alloc]; have := hE1.le; have := hEa.le; omega
        have hL2 := lot_new (w := wa) hxw
        have HEa := Lib.hid (hE1.trans hEa)
        clear d0 d1 d2
        obtain ⟨_, _, _, e1, hbb2, e2, _, d0, d1, d2⟩ := (HB1.out.e hEa).get (i := 0) (by omega)
        injection e1 with e1; injection e1 with e1 e1'; subst e1 e1'
        simp at e2; subst e2
        simp only [Nat.zero_mul, Nat.zero_add] at d0 d1 d2
        clear HC
        go_wp2_with (at_builtin; refine wpList_appL _ rfl _ _ rfl base _ _ _ _ rfl hO2 _ 1 1 [(f, a, m)] rfl hL2 (by omega) hb2 ?_; intro A' c' w3 hO3 hG3 hB3 hor3)
        go_ret
        exact retPut_of (HEa.out.alloc _) hO3 hG3 hor3 HF.out
end Go.Proofs.Ytgbamgijpgjmgaa
/- spans.Append: a lot behind a row of the call's own. -/
namespace Go.Proofs.Ytgbamgijpgjmgaa
open Go.RowKit

set_option maxHeartbeats 2000000 in
set_option maxRecDepth 100000 in
theorem append_c (x : Lt) (A : Option Addr) (n c base : Nat) (l : List Lt) (w : World) (h : OwnL w base A n c l) (hl : ∀ y ∈ l, possB y = true) (hx : x.2.2 ≠ 0 → possB x = true) (hxw : WfL x) (hb : base ≤ w.heap.size) (hn : n ≤ 1000000) :
    Calls Try.prog 85 #[.slice A n c, ltV x] w (RetPut w base A (addL l x)) := by
  by_cases h0 : x.2.2 = 0
  · have HF := Lib.hid (addL_zero (s := l) h0)
    obtain ⟨f, a, m⟩ := x
    simp only at h0
    subst h0
    unfold ltV
    go_enter Try.func85, Try.ntmps85
    go_wp2
    go_ret
    exact ⟨A, n, c, rfl, by rw [HF.out]; exact h.e ((E.refl w).alloc _), World.grownBy_alloc w _ _, .inl rfl⟩
  · have hpx := hx h0
    obtain ⟨w1, hw1⟩ : ∃ w1, w.alloc (.cells #[.int .i64 x.1, .int .i64 x.2.1, .int .i64 x.2.2] 39) = w1 := ⟨_, rfl⟩
    have hE1 : E w w1 := by rw [← hw1]; exact (E.refl w).alloc _
    have hz1 : w1.heap.size = w.heap.size + 1 := by rw [← hw1]; simp
    have hB1 : LotsAt w1 (some ⟨w.heap.size, 0, none⟩) 1 1 [x] := by rw [← hw1]; exact lot_new hxw
    have hG1 : w.grownBy w1 (ob A) := by rw [← hw1]; exact World.grownBy_alloc w _ _
    obtain ⟨_, _, _, e1, hbb, e2, _, d0, d1, d2⟩ := hB1.get (i := 0) (by omega)
    injection e1 with e1; injection e1 with e1 e1'; subst e1 e1'
    simp at e2; subst e2
    simp only [Nat.zero_mul, Nat.zero_add] at d0 d1 d2
    have hO1 := h.e hE1
    have HW1 := Lib.hid hw1
    clear hw1
    have hb0 : (x.2.2 == 0) = false := by simpa using h0
    have HL := Lib.hid hl
    have HB1 := Lib.hid hB1
    have HG1 := Lib.hid hG1
    have HO1 := Lib.hid hO1
    have HP := Lib.hid hpx
    clear hl hB1 hG1 hO1 hpx hx
    rcases snoc_cases l with rfl | ⟨s, p, rfl⟩
    · have HF := Lib.hid (addL_nil h0)
      obtain rfl : n = 0 := by have := h.1; simpa using this.symm
      clear hz1 h
      obtain ⟨f, a, m⟩ := x
      unfold ltV
      simp only at hb0 d0 d1 d2 HW1 HF
      clear h0
      go_enter Try.func85, Try.ntmps85
      go_upto_region 4 with fail
      rw [HW1.out]
      clear HW1
      (refine wp_region_quiet_lit (by kernel_rfl) (by kernel_rfl) ?_; (repeat (first | ((with_reducible refine wpQuiet_step (fun K hK => ?_)); go_simp; (with_reducible refine hK _ ?_); clear hK K) | ((with_reducible refine wpQuiet_off (by kernel_rfl) (fun K hK => ?_)); go_simp; (with_reducible refine hK _ ?_); clear hK K))); (with_reducible refine wpQuiet_nil ?_); intro _ hw'; obtain ⟨nq, hw''⟩ := hw'; subst hw'')
      have hEX : E w (w1.drewN nq) := hE1.drewN nq
      have hO2 := HO1.out.e ((E.of_q ((Q.refl w1).drewN nq)).alloc (.cells #[.int .i64 f, .int .i64 a, .int .i64 m] 39))
      have hb2 : base ≤ ((w1.drewN nq).alloc (.cells #[.int .i64 f, .int .i64 a, .int .i64 m] 39)).heap.size := by rw [World.size_alloc]; have := hEX.le; omega
      have hL2 := lot_new (w := w1.drewN nq) hxw
      go_wp2_with (at_builtin; refine wpList_appL _ rfl _ _ rfl base _ _ _ _ rfl hO2 _ 1 1 [(f, a, m)] rfl hL2 (by omega) hb2 ?_; intro A' c' w3 hO3 hG3 hB3 hor3)
      go_ret
      exact retPut_of (hEX.alloc _) hO3 hG3 hor3 (by rw [HF.out]; rfl)
    · obtain ⟨k, hnk⟩ : ∃ k, n = k + 1 := ⟨s.length, by have := h.1; simpa using this.symm⟩
      obtain ⟨hk, g, rfl, hbg, hg, hpw, p0, p1, p2, pf⟩ := lots_last (k := k) (by rw [← hnk]; exact HO1.out)
      have hgw : g < w.heap.size := (h.ltN g rfl).2
      have hp : possB p = true := HL.out p (by simp)
      have hpp := possB_iff.1 hp
      have hwr3 : IntKind.i64.wrap (p.2.1 + p.2.2) = p.2.1 + p.2.2 := by rw [IntKind.wrap_i64]; omega
      by_cases hf : p.1 = x.1
      · have bf : (p.1 == x.1) = true := by simpa using hf
        by_cases ha : p.2.1 + p.2.2 = x.2.1
        · have ba : (p.2.1 + p.2.2 == x.2.1) = true := by simpa using ha
          have HF := Lib.hid (addL_join (s := s) h0 (contB_iff.2 ⟨hf, ha⟩))
          clear hf ha
          obtain ⟨f, a, m⟩ := x
          obtain ⟨fp, ap, np⟩ := p
          unfold ltV
          simp only at hb0 d0 d1 d2 HW1 HF p0 p1 p2 bf ba hwr3
          have hkI : (k : Int) < (n : Int) := by omega
          have hk0 : (0 : Int) ≤ (k : Int) := by omega
          have HN0 := Lib.hid (show (0 : Int) < (n : Int) by omega)
          have hn1 : IntKind.i64.wrap ((n : Int) - 1) = (k : Int) := by rw [IntKind.wrap_i64]; omega
          have HNK := Lib.hid hnk
          clear h0 h hz1 hp hnk hpp
          go_enter Try.func85, Try.ntmps85
          go_upto_region 4 with fail
          rw [HW1.out]
          clear HW1
          have dn : decide (0 < n) = true := by have := HN0.out; simp; omega
          (refine wp_region_quiet_lit (by kernel_rfl) (by kernel_rfl) ?_; (repeat (first | ((with_reducible refine wpQuiet_step (fun K hK => ?_)); go_simp; (with_reducible refine hK _ ?_); clear hK K) | ((with_reducible refine wpQuiet_off (by kernel_rfl) (fun K hK => ?_)); go_simp; (with_reducible refine hK _ ?_); clear hK K))); (with_reducible refine wpQuiet_nil ?_); intro _ hw'; obtain ⟨nq, hw''⟩ := hw'; subst hw'')
          obtain ⟨wa, hwa⟩ : ∃ wa, w1.drewN nq = wa := ⟨_, rfl⟩
          have hEa : E w1 wa := by rw [← hwa]; exact (E.refl w1).drewN nq
          rw [hwa]
          clear hwa
          clear p0 p1 p2 pf d0 d1 d2
          obtain ⟨_, g', e', _, _, _, p0, p1, p2, pf⟩ := lots_last (k := k) (by rw [← HNK.out]; exact HO1.out.e hEa)
          injection e' with e'; injection e' with e'; subst e'
          obtain ⟨_, _, _, e1, hbb2, e2, _, d0, d1, d2⟩ := (HB1.out.e hEa).get (i := 0) (by omega)
          injection e1 with e1; injection e1 with e1 e1'; subst e1 e1'
          simp at e2; subst e2
          simp only [Nat.zero_mul, Nat.zero_add] at d0 d1 d2 p0 p1 p2
          have HO4 := HO1.out.e hEa
          have HX := possB_iff.1 HP.out
          have HPp := possB_iff.1 (HL.out (fp, ap, np) (by simp))
          simp only at HX HPp
          have hwr2 : IntKind.i64.wrap (np + m) = np + m := by rw [IntKind.wrap_i64]; omega
          have hSet := HO4.setN (i := k) (x := (fp, ap, np)) (y := (fp, ap, np + m)) (by rw [← hk]; exact last_get _ _) rfl rfl (wf_of_i64 (by show _ ≤ np + m; omega) (by show np + m ≤ _; omega))
          have hlast : (s ++ [(fp, ap, np)]).set k (fp, ap, np + m) = s ++ [(fp, ap, np + m)] := by rw [← hk]; exact set_last _ _ _
          rw [hlast] at hSet
          have HSet := Lib.hid hSet
          have HEa := Lib.hid (hE1.trans hEa)
          clear HO1 HB1 HL HO4 HX HPp hSet hlast
          go_wp2_with fail
          go_region
          all_goals go_wp2_with fail
          go_ret
          exact ⟨_, n, c, rfl, by rw [HF.out]; exact HSet.out.1.e ((E.refl _).drew), grown_e HEa.out (grown_drew HSet.out.2), .inl rfl⟩
        · have ba : (p.2.1 + p.2.2 == x.2.1) = false := by simpa using ha
          have HF := Lib.hid (addL_new (s := s) h0 (show contB p x = false by rw [Bool.eq_false_iff, ne_eq, contB_iff]; omega))
          clear hf ha
          obtain ⟨f, a, m⟩ := x
          obtain ⟨fp, ap, np⟩ := p
          unfold ltV
          simp only at hb0 d0 d1 d2 HW1 HF p0 p1 p2 bf ba hwr3
          have hkI : (k : Int) < (n : Int) := by omega
          have hk0 : (0 : Int) ≤ (k : Int) := by omega
          have HN0 := Lib.hid (show (0 : Int) < (n : Int) by omega)
          have hn1 : IntKind.i64.wrap ((n : Int) - 1) = (k : Int) := by rw [IntKind.wrap_i64]; omega
          have HNK := Lib.hid hnk
          clear h0 h hz1 hp hnk hpp
          go_enter Try.func85, Try.ntmps85
          go_upto_region 4 with fail
          rw [HW1.out]
          clear HW1
          have dn : decide (0 < n) = true := by have := HN0.out; simp; omega
          (refine wp_region_quiet_lit (by kernel_rfl) (by kernel_rfl) ?_; (repeat (first | ((with_reducible refine wpQuiet_step (fun K hK => ?_)); go_simp; (with_reducible refine hK _ ?_); clear hK K) | ((with_reducible refine wpQuiet_off (by kernel_rfl) (fun K hK => ?_)); go_simp; (with_reducible refine hK _ ?_); clear hK K))); (with_reducible refine wpQuiet_nil ?_); intro _ hw'; obtain ⟨nq, hw''⟩ := hw'; subst hw'')
          obtain ⟨wa, hwa⟩ : ∃ wa, w1.drewN nq = wa := ⟨_, rfl⟩
          have hEa : E w1 wa := by rw [← hwa]; exact (E.refl w1).drewN nq
          rw [hwa]
          clear hwa
          have hO2 := HO1.out.e (hEa.alloc (.cells #[.int .i64 f, .int .i64 a, .int .i64 m] 39))
          have hb2 : base ≤ (wa.alloc (.cells #[.int .i64 f, .int .i64 a, .int .i64 m] 39)).heap.size := by rw [World.size_alloc]; have := hE1.le; have := hEa.le; omega
          have hL2 := lot_new (w := wa) hxw
          have HEa := Lib.hid (hE1.trans hEa)
          clear d0 d1 d2
          obtain ⟨_, _, _, e1, hbb2, e2, _, d0, d1, d2⟩ := (HB1.out.e hEa).get (i := 0) (by omega)
          injection e1 with e1; injection e1 with e1 e1'; subst e1 e1'
          simp at e2; subst e2
          simp only [Nat.zero_mul, Nat.zero_add] at d0 d1 d2
          go_wp2_with (at_builtin; refine wpList_appL _ rfl _ _ rfl base _ _ _ _ rfl hO2 _ 1 1 [(f, a, m)] rfl hL2 (by omega) hb2 ?_; intro A' c' w3 hO3 hG3 hB3 hor3)
          go_ret
          exact retPut_of (HEa.out.alloc _) hO3 hG3 hor3 HF.out
      · have bf : (p.1 == x.1) = false := by simpa using hf
        have ba : True := trivial
        have HF := Lib.hid (addL_new (s := s) h0 (show contB p x = false by rw [Bool.eq_false_iff, ne_eq, contB_iff]; omega))
        clear hf
        obtain ⟨f, a, m⟩ := x
        obtain ⟨fp, ap, np⟩ := p
        unfold ltV
        simp only at hb0 d0 d1 d2 HW1 HF p0 p1 p2 bf ba hwr3
        have hkI : (k : Int) < (n : Int) := by omega
        have hk0 : (0 : Int) ≤ (k : Int) := by omega
        have HN0 := Lib.hid (show (0 : Int) < (n : Int) by omega)
        have hn1 : IntKind.i64.wrap ((n : Int) - 1) = (k : Int) := by rw [IntKind.wrap_i64]; omega
        have HNK := Lib.hid hnk
        clear h0 h hz1 hp hnk hpp
        go_enter Try.func85, Try.ntmps85
        go_upto_region 4 with fail
        rw [HW1.out]
        clear HW1
        have dn : decide (0 < n) = true := by have := HN0.out; simp; omega
        (refine wp_region_quiet_lit (by kernel_rfl) (by kernel_rfl) ?_; (repeat (first | ((with_reducible refine wpQuiet_step (fun K hK => ?_)); go_simp; (with_reducible refine hK _ ?_); clear hK K) | ((with_reducible refine wpQuiet_off (by kernel_rfl) (fun K hK => ?_)); go_simp; (with_reducible refine hK _ ?_); clear hK K))); (with_reducible refine wpQuiet_nil ?_); intro _ hw'; obtain ⟨nq, hw''⟩ := hw'; subst hw'')
        obtain ⟨wa, hwa⟩ : ∃ wa, w1.drewN nq = wa := ⟨_, rfl⟩
        have hEa : E w1 wa := by rw [← hwa]; exact (E.refl w1).drewN nq
        rw [hwa]
        clear hwa
        have hO2 := HO1.out.e (hEa.alloc (.cells #[.int .i64 f, .int .i64 a, .int .i64 m] 39))
        have hb2 : base ≤ (wa.alloc (.cells #[.int .i64 f, .int .i64 a, .int .i64 m] 39)).heap.size := by rw [World.size_alloc]; have := hE1.le; have := hEa.le; omega
        have hL2 := lot_new (w := wa) hxw
        have HEa := Lib.hid (hE1.trans hEa)
        clear d0 d1 d2
        obtain ⟨_, _, _, e1, hbb2, e2, _, d0, d1, d2⟩ := (HB1.out.e hEa).get (i := 0) (by omega)
        injection e1 with e1; injection e1 with e1 e1'; subst e1 e1'
        simp at e2; subst e2
        simp only [Nat.zero_mul, Nat.zero_add] at d0 d1 d2
        go_wp2_with (at_builtin; refine wpList_appL _ rfl _ _ rfl base _ _ _ _ rfl hO2 _ 1 1 [(f, a, m)] rfl hL2 (by omega) hb2 ?_; intro A' c' w3 hO3 hG3 hB3 hor3)
        go_ret
        exact retPut_of (HEa.out.alloc _) hO3 hG3 hor3 HF.out
end Go.Proofs.Ytgbamgijpgjmgaa
/- Valid, Total, Put; their models; Same, Has. -/
namespace Go.Proofs.Ytgbamgijpgjmgaa
open Go.RowKit

theorem allB_drop {l : List Lt} {k : Nat} {x : Lt} (h : l[k]? = some x) : (l.drop k).all possB = (possB x && (l.drop (k + 1)).all possB) := by rw [drop_at h]; rfl
set_option maxHeartbeats 2000000 in
theorem valid_c (A : Option Addr) (n c : Nat) (l : List Lt) (w : World) (h : LotsAt w A n c l) : Calls Try.prog 22 #[.slice A n c] w (RetK w (validB l)) := by
  have hm := h.n63
  have hl := h.len
  by_cases hn : n ≤ 4096
  · have HV := Lib.hid (show validB l = l.all possB by simp [validB, hl, hn])
    have hnI : ¬ (4096 : Int) < (n : Int) := by omega
    have HL := Lib.hid hl
    clear hl
    go_enter Try.func22, Try.ntmps22
    go_wp2_with fail
    go_loopw [10] (fun ti wr => ∃ k : Nat, k ≤ n ∧ ti = .int .i64 k ∧ E w wr ∧ Hid (validB l = (l.drop k).all possB)) (fun ti _ => n - (intOf ti).toNat)
    case atStart => exact ⟨0, Nat.zero_le _, rfl, E.refl _, HV.out⟩
    case round =>
      obtain ⟨k, hk, rfl, hE, hV⟩ := hrel
      by_cases hlt : k < n
      · obtain ⟨b, o, x, rfl, hb, hx, hwx, c0, c1, c2⟩ := (h.e hE).get hlt
        have HS := Lib.hid (allB_drop hx)
        have HP := Lib.hid (fun W => possible_c x W hwx)
        clear hx hwx
        obtain ⟨f, a, m⟩ := x
        unfold ltV at HP
        simp only at c0 c1 c2
        have hkI : (k : Int) < (n : Int) := by omega
        cases hp : possB (f, a, m)
        · rw [hp] at HP
          have HF := Lib.hid (show validB l = false by rw [hV.out, HS.out, hp]; rfl)
          clear hV hp HS
          go_wp2_with fail
          refine (HP.out _).mono ?_
          rintro e w2 ⟨rfl, hE2⟩
          go_wp2_with fail
          go_ret
          exact ⟨ret_bool HF.out.symm, (hE.alloc _).trans hE2⟩
        · rw [hp] at HP
          have HF := Lib.hid (show validB l = (l.drop (k + 1)).all possB by rw [hV.out, HS.out, hp]; rfl)
          clear hV hp HS
          go_wp2_with fail
          refine (HP.out _).mono ?_
          rintro e w2 ⟨rfl, hE2⟩
          go_wp2_with fail
          go_roundw
          case rel => exact ⟨k + 1, by omega, by go_num, (hE.alloc _).trans hE2, HF.out⟩
          case measure => simp [intOf]; omega
      · have HF := Lib.hid (show validB l = true by rw [hV.out, List.drop_eq_nil_of_le (by rw [HL.out]; omega)]; rfl)
        go_wp2_with fail
        go_ret
        exact ⟨ret_bool HF.out.symm, hE⟩
  · have HV := Lib.hid (show validB l = false by rw [validB, Bool.and_eq_false_iff]; left; simp; omega)
    have hnI : (4096 : Int) < (n : Int) := by omega
    go_enter Try.func22, Try.ntmps22
    go_wp2_with fail
    go_ret
    exact ⟨ret_bool HV.out.symm, E.refl _⟩
end Go.Proofs.Ytgbamgijpgjmgaa
/- The model's Add. -/
namespace Go.Proofs.Ytgbamgijpgjmgaa
open Go.RowKit

set_option maxHeartbeats 4000000 in
set_option maxRecDepth 100000 in
theorem refAdd_c (x : Lt) (A : Option Addr) (n c : Nat) (l : List Lt) (w : World) (h : LotsAt w A n c l) (hl : ∀ y ∈ l, possB y = true) (hx : x.2.2 ≠ 0 → possB x = true) (hxw : WfL x) (hn : n ≤ 1000000) :
    Calls Try.prog 54 #[.slice A n c, ltV x] w (RetL w (addL l x)) := by
  obtain ⟨w1, hw1⟩ : ∃ w1, w.alloc (.cells #[.int .i64 x.1, .int .i64 x.2.1, .int .i64 x.2.2] 39) = w1 := ⟨_, rfl⟩
  have hE1 : E w w1 := by rw [← hw1]; exact (E.refl w).alloc _
  have hB1 : LotsAt w1 (some ⟨w.heap.size, 0, none⟩) 1 1 [x] := by rw [← hw1]; exact lot_new hxw
  have h1 := h.e hE1
  have hle1 := hE1.le
  have HW1 := Lib.hid hw1
  have HL := Lib.hid hl
  have HX0 := Lib.hid hx
  have HB1 := Lib.hid hB1
  have hm := h.n63
  clear hw1 hl hx hB1 h
  by_cases h0 : x.2.2 = 0
  · have HF := Lib.hid (addL_zero (s := l) h0)
    obtain ⟨f, a, m⟩ := x
    simp only at h0
    subst h0
    unfold ltV
    go_enter Try.func54, Try.ntmps54
    go_upto_region 2 with fail
    rw [HW1.out]
    clear HW1
    go_upto_region 3 with (at_builtin; refine wpList_appL _ rfl _ _ rfl w.heap.size none 0 0 [] rfl (OwnL.nil _ _) A n c (l) rfl h1 (by omega) hle1 ?_; intro A' c' w2 hO2 hG2 hB2 hor2)
    have hE2 : E w1 w2 := (E.refl w1).grown hG2 (fun k hk => by cases hk)
    have hEw2 := hE1.trans hE2
    have HO1 := Lib.hid (show OwnL w2 w.heap.size A' n c' (l) by rw [Nat.zero_add, List.nil_append] at hO2; exact hO2)
    obtain ⟨_, _, _, e1, hbb, e2, _, d0, d1, d2⟩ := (HB1.out.e hE2).get (i := 0) (by omega)
    injection e1 with e1; injection e1 with e1 e1'; subst e1 e1'
    simp at e2; subst e2
    simp only [Nat.zero_mul, Nat.zero_add] at d0 d1 d2
    have HB1 := Lib.hid (HB1.out.e hE2)
    clear hO2 hG2 hB2 hor2 hE1 hE2 h1 hle1
    go_wp2_with fail
    go_ret
    exact RetL.mk_ HF.out HO1.out hEw2
  · have hpx := HX0.out h0
    have HP := Lib.hid hpx
    clear hpx
    have hb0 : (x.2.2 == 0) = false := by simpa using h0
    rcases snoc_cases l with rfl | ⟨s, p, rfl⟩
    · have HF := Lib.hid (addL_nil h0)
      have HN := Lib.hid (show n = 0 by have := h1.len; simpa using this.symm)
      obtain ⟨f, a, m⟩ := x
      simp only at hb0 HF
      clear h0
      unfold ltV
      go_enter Try.func54, Try.ntmps54
      go_upto_region 2 with fail
      rw [HW1.out]
      clear HW1
      go_upto_region 3 with (at_builtin; refine wpList_appL _ rfl _ _ rfl w.heap.size none 0 0 [] rfl (OwnL.nil _ _) A n c ([]) rfl h1 (by omega) hle1 ?_; intro A' c' w2 hO2 hG2 hB2 hor2)
      have hE2 : E w1 w2 := (E.refl w1).grown hG2 (fun k hk => by cases hk)
      have hEw2 := hE1.trans hE2
      have HO1 := Lib.hid (show OwnL w2 w.heap.size A' n c' ([]) by rw [Nat.zero_add, List.nil_append] at hO2; exact hO2)
      obtain ⟨_, _, _, e1, hbb, e2, _, d0, d1, d2⟩ := (HB1.out.e hE2).get (i := 0) (by omega)
      injection e1 with e1; injection e1 with e1 e1'; subst e1 e1'
      simp at e2; subst e2
      simp only [Nat.zero_mul, Nat.zero_add] at d0 d1 d2
      have HB1 := Lib.hid (HB1.out.e hE2)
      clear hO2 hG2 hB2 hor2 hE1 hE2 h1 hle1
      go_upto_region 6 with fail
      have dn : decide (0 < n) = false := by have := HN.out; simp; omega
      (refine wp_region_quiet_lit (by kernel_rfl) (by kernel_rfl) ?_; (repeat (first | ((with_reducible refine wpQuiet_step (fun K hK => ?_)); go_simp; (with_reducible refine hK _ ?_); clear hK K) | ((with_reducible refine wpQuiet_off (by kernel_rfl) (fun K hK => ?_)); go_simp; (with_reducible refine hK _ ?_); clear hK K))); (with_reducible refine wpQuiet_nil ?_); intro _ hw'; obtain ⟨nq, hw''⟩ := hw'; subst hw'')
      obtain ⟨wa, hwa⟩ : ∃ wa, w2.drewN nq = wa := ⟨_, rfl⟩
      have hEa : E w2 wa := by rw [← hwa]; exact (E.refl w2).drewN nq
      rw [hwa]
      clear hwa
      have hO2 := HO1.out.e (hEa.alloc (.cells #[.int .i64 f, .int .i64 a, .int .i64 m] 39))
      have hb2 : w.heap.size ≤ (wa.alloc (.cells #[.int .i64 f, .int .i64 a, .int .i64 m] 39)).heap.size := by rw [World.size_alloc]; have := hEw2.le; have := hEa.le; omega
      have hL2 := lot_new (w := wa) hxw
      have HEa := Lib.hid (hEw2.trans hEa)
      clear d0 d1 d2
      obtain ⟨_, _, _, e1, hbb2, e2, _, d0, d1, d2⟩ := (HB1.out.e hEa).get (i := 0) (by omega)
      injection e1 with e1; injection e1 with e1 e1'; subst e1 e1'
      simp at e2; subst e2
      simp only [Nat.zero_mul, Nat.zero_add] at d0 d1 d2
      go_wp2_with (at_builtin; refine wpList_appL _ rfl _ _ rfl w.heap.size _ _ _ _ rfl hO2 _ 1 1 [(f, a, m)] rfl hL2 (by omega) hb2 ?_; intro A' c' w3 hO3 hG3 hB3 hor3)
      go_ret
      exact RetL.mk_ (by rw [HF.out]; rfl) hO3 ((HEa.out.alloc _).up hB3)
    · obtain ⟨k, hnk⟩ : ∃ k, n = k + 1 := ⟨s.length, by have := h1.len; simpa using this.symm⟩
      have hkI : (k : Int) < (n : Int) := by omega
      have hk0 : (0 : Int) ≤ (k : Int) := by omega
      have HN0 := Lib.hid (show (0 : Int) < (n : Int) by omega)
      have hn1 : IntKind.i64.wrap ((n : Int) - 1) = (k : Int) := by have := hm; rw [IntKind.wrap_i64]; omega
      have HNK := Lib.hid hnk
      clear hnk
      have hp : possB p = true := HL.out p (by simp)
      have hpp := possB_iff.1 hp
      have hwr3 : IntKind.i64.wrap (p.2.1 + p.2.2) = p.2.1 + p.2.2 := by rw [IntKind.wrap_i64]; omega
      by_cases hf : p.1 = x.1
      · have bf : (p.1 == x.1) = true := by simpa using hf
        by_cases ha : p.2.1 + p.2.2 = x.2.1
        · have ba : (p.2.1 + p.2.2 == x.2.1) = true := by simpa using ha
          have HF := Lib.hid (addL_join (s := s) h0 (contB_iff.2 ⟨hf, ha⟩))
          clear hf ha
          obtain ⟨f, a, m⟩ := x
          obtain ⟨fp, ap, np⟩ := p
          simp only at hb0 HF bf ba hwr3
          unfold ltV
          go_enter Try.func54, Try.ntmps54
          go_upto_region 2 with fail
          rw [HW1.out]
          clear HW1
          go_upto_region 3 with (at_builtin; refine wpList_appL _ rfl _ _ rfl w.heap.size none 0 0 [] rfl (OwnL.nil _ _) A n c (s ++ [(fp, ap, np)]) rfl h1 (by omega) hle1 ?_; intro A' c' w2 hO2 hG2 hB2 hor2)
          have hE2 : E w1 w2 := (E.refl w1).grown hG2 (fun k hk => by cases hk)
          have hEw2 := hE1.trans hE2
          have HO1 := Lib.hid (show OwnL w2 w.heap.size A' n c' (s ++ [(fp, ap, np)]) by rw [Nat.zero_add, List.nil_append] at hO2; exact hO2)
          obtain ⟨_, _, _, e1, hbb, e2, _, d0, d1, d2⟩ := (HB1.out.e hE2).get (i := 0) (by omega)
          injection e1 with e1; injection e1 with e1 e1'; subst e1 e1'
          simp at e2; subst e2
          simp only [Nat.zero_mul, Nat.zero_add] at d0 d1 d2
          have HB1 := Lib.hid (HB1.out.e hE2)
          clear hO2 hG2 hB2 hor2 hE1 hE2 h1 hle1
          obtain ⟨hk, g, rfl, hbg, hg, hpw, p0, p1, p2, pf⟩ := lots_last (k := k) (by rw [← HNK.out]; exact HO1.out)
          simp only at p0 p1 p2
          clear h0 hp hpp
          go_upto_region 6 with fail
          have dn : decide (0 < n) = true := by have := HN0.out; simp; omega
          (refine wp_region_quiet_lit (by kernel_rfl) (by kernel_rfl) ?_; (repeat (first | ((with_reducible refine wpQuiet_step (fun K hK => ?_)); go_simp; (with_reducible refine hK _ ?_); clear hK K) | ((with_reducible refine wpQuiet_off (by kernel_rfl) (fun K hK => ?_)); go_simp; (with_reducible refine hK _ ?_); clear hK K))); (with_reducible refine wpQuiet_nil ?_); intro _ hw'; obtain ⟨nq, hw''⟩ := hw'; subst hw'')
          obtain ⟨wa, hwa⟩ : ∃ wa, w2.drewN nq = wa := ⟨_, rfl⟩
          have hEa : E w2 wa := by rw [← hwa]; exact (E.refl w2).drewN nq
          rw [hwa]
          clear hwa
          clear p0 p1 p2 pf d0 d1 d2
          obtain ⟨_, g', e', _, _, _, p0, p1, p2, pf⟩ := lots_last (k := k) (by rw [← HNK.out]; exact HO1.out.e hEa)
          injection e' with e'; injection e' with e'; subst e'
          obtain ⟨_, _, _, e1, hbb2, e2, _, d0, d1, d2⟩ := (HB1.out.e hEa).get (i := 0) (by omega)
          injection e1 with e1; injection e1 with e1 e1'; subst e1 e1'
          simp at e2; subst e2
          simp only [Nat.zero_mul, Nat.zero_add] at d0 d1 d2 p0 p1 p2
          have HO4 := HO1.out.e hEa
          have HX := possB_iff.1 HP.out
          have HPp := possB_iff.1 (HL.out (fp, ap, np) (by simp))
          simp only at HX HPp
          have hwr2 : IntKind.i64.wrap (np + m) = np + m := by rw [IntKind.wrap_i64]; omega
          have hSet := HO4.setN (i := k) (x := (fp, ap, np)) (y := (fp, ap, np + m)) (by rw [← hk]; exact last_get _ _) rfl rfl (wf_of_i64 (by show _ ≤ np + m; omega) (by show np + m ≤ _; omega))
          have hlast : (s ++ [(fp, ap, np)]).set k (fp, ap, np + m) = s ++ [(fp, ap, np + m)] := by rw [← hk]; exact set_last _ _ _
          rw [hlast] at hSet
          have HSet := Lib.hid hSet
          have HEa := Lib.hid (hEw2.trans hEa)
          clear HO1 HB1 HL HO4 HX HPp hSet hlast
          go_wp2_with fail
          go_region
          all_goals go_wp2_with fail
          go_ret
          exact RetL.mk_ HF.out (HSet.out.1.e ((E.refl _).drew)) ((HEa.out.setCell (p := ⟨g, k * 3 + 2, none⟩) hbg _).drew)
        · have ba : (p.2.1 + p.2.2 == x.2.1) = false := by simpa using ha
          have HF := Lib.hid (addL_new (s := s) h0 (show contB p x = false by rw [Bool.eq_false_iff, ne_eq, contB_iff]; omega))
          clear hf ha
          obtain ⟨f, a, m⟩ := x
          obtain ⟨fp, ap, np⟩ := p
          simp only at hb0 HF bf ba hwr3
          unfold ltV
          go_enter Try.func54, Try.ntmps54
          go_upto_region 2 with fail
          rw [HW1.out]
          clear HW1
          go_upto_region 3 with (at_builtin; refine wpList_appL _ rfl _ _ rfl w.heap.size none 0 0 [] rfl (OwnL.nil _ _) A n c (s ++ [(fp, ap, np)]) rfl h1 (by omega) hle1 ?_; intro A' c' w2 hO2 hG2 hB2 hor2)
          have hE2 : E w1 w2 := (E.refl w1).grown hG2 (fun k hk => by cases hk)
          have hEw2 := hE1.trans hE2
          have HO1 := Lib.hid (show OwnL w2 w.heap.size A' n c' (s ++ [(fp, ap, np)]) by rw [Nat.zero_add, List.nil_append] at hO2; exact hO2)
          obtain ⟨_, _, _, e1, hbb, e2, _, d0, d1, d2⟩ := (HB1.out.e hE2).get (i := 0) (by omega)
          injection e1 with e1; injection e1 with e1 e1'; subst e1 e1'
          simp at e2; subst e2
          simp only [Nat.zero_mul, Nat.zero_add] at d0 d1 d2
          have HB1 := Lib.hid (HB1.out.e hE2)
          clear hO2 hG2 hB2 hor2 hE1 hE2 h1 hle1
          obtain ⟨hk, g, rfl, hbg, hg, hpw, p0, p1, p2, pf⟩ := lots_last (k := k) (by rw [← HNK.out]; exact HO1.out)
          simp only at p0 p1 p2
          clear h0 hp hpp
          go_upto_region 6 with fail
          have dn : decide (0 < n) = true := by have := HN0.out; simp; omega
          (refine wp_region_quiet_lit (by kernel_rfl) (by kernel_rfl) ?_; (repeat (first | ((with_reducible refine wpQuiet_step (fun K hK => ?_)); go_simp; (with_reducible refine hK _ ?_); clear hK K) | ((with_reducible refine wpQuiet_off (by kernel_rfl) (fun K hK => ?_)); go_simp; (with_reducible refine hK _ ?_); clear hK K))); (with_reducible refine wpQuiet_nil ?_); intro _ hw'; obtain ⟨nq, hw''⟩ := hw'; subst hw'')
          obtain ⟨wa, hwa⟩ : ∃ wa, w2.drewN nq = wa := ⟨_, rfl⟩
          have hEa : E w2 wa := by rw [← hwa]; exact (E.refl w2).drewN nq
          rw [hwa]
          clear hwa
          have hO2 := HO1.out.e (hEa.alloc (.cells #[.int .i64 f, .int .i64 a, .int .i64 m] 39))
          have hb2 : w.heap.size ≤ (wa.alloc (.cells #[.int .i64 f, .int .i64 a, .int .i64 m] 39)).heap.size := by rw [World.size_alloc]; have := hEw2.le; have := hEa.le; omega
          have hL2 := lot_new (w := wa) hxw
          have HEa := Lib.hid (hEw2.trans hEa)
          clear d0 d1 d2
          obtain ⟨_, _, _, e1, hbb2, e2, _, d0, d1, d2⟩ := (HB1.out.e hEa).get (i := 0) (by omega)
          injection e1 with e1; injection e1 with e1 e1'; subst e1 e1'
          simp at e2; subst e2
          simp only [Nat.zero_mul, Nat.zero_add] at d0 d1 d2
          go_wp2_with (at_builtin; refine wpList_appL _ rfl _ _ rfl w.heap.size _ _ _ _ rfl hO2 _ 1 1 [(f, a, m)] rfl hL2 (by omega) hb2 ?_; intro A' c' w3 hO3 hG3 hB3 hor3)
          go_ret
          exact RetL.mk_ (HF.out) hO3 ((HEa.out.alloc _).up hB3)
      · have bf : (p.1 == x.1) = false := by simpa using hf
        have ba : True := trivial
        have HF := Lib.hid (addL_new (s := s) h0 (show contB p x = false by rw [Bool.eq_false_iff, ne_eq, contB_iff]; omega))
        clear hf
        obtain ⟨f, a, m⟩ := x
        obtain ⟨fp, ap, np⟩ := p
        simp only at hb0 HF bf ba hwr3
        unfold ltV
        go_enter Try.func54, Try.ntmps54
        go_upto_region 2 with fail
        rw [HW1.out]
        clear HW1
        go_upto_region 3 with (at_builtin; refine wpList_appL _ rfl _ _ rfl w.heap.size none 0 0 [] rfl (OwnL.nil _ _) A n c (s ++ [(fp, ap, np)]) rfl h1 (by omega) hle1 ?_; intro A' c' w2 hO2 hG2 hB2 hor2)
        have hE2 : E w1 w2 := (E.refl w1).grown hG2 (fun k hk => by cases hk)
        have hEw2 := hE1.trans hE2
        have HO1 := Lib.hid (show OwnL w2 w.heap.size A' n c' (s ++ [(fp, ap, np)]) by rw [Nat.zero_add, List.nil_append] at hO2; exact hO2)
        obtain ⟨_, _, _, e1, hbb, e2, _, d0, d1, d2⟩ := (HB1.out.e hE2).get (i := 0) (by omega)
        injection e1 with e1; injection e1 with e1 e1'; subst e1 e1'
        simp at e2; subst e2
        simp only [Nat.zero_mul, Nat.zero_add] at d0 d1 d2
        have HB1 := Lib.hid (HB1.out.e hE2)
        clear hO2 hG2 hB2 hor2 hE1 hE2 h1 hle1
        obtain ⟨hk, g, rfl, hbg, hg, hpw, p0, p1, p2, pf⟩ := lots_last (k := k) (by rw [← HNK.out]; exact HO1.out)
        simp only at p0 p1 p2
        clear h0 hp hpp
        go_upto_region 6 with fail
        have dn : decide (0 < n) = true := by have := HN0.out; simp; omega
        (refine wp_region_quiet_lit (by kernel_rfl) (by kernel_rfl) ?_; (repeat (first | ((with_reducible refine wpQuiet_step (fun K hK => ?_)); go_simp; (with_reducible refine hK _ ?_); clear hK K) | ((with_reducible refine wpQuiet_off (by kernel_rfl) (fun K hK => ?_)); go_simp; (with_reducible refine hK _ ?_); clear hK K))); (with_reducible refine wpQuiet_nil ?_); intro _ hw'; obtain ⟨nq, hw''⟩ := hw'; subst hw'')
        obtain ⟨wa, hwa⟩ : ∃ wa, w2.drewN nq = wa := ⟨_, rfl⟩
        have hEa : E w2 wa := by rw [← hwa]; exact (E.refl w2).drewN nq
        rw [hwa]
        clear hwa
        have hO2 := HO1.out.e (hEa.alloc (.cells #[.int .i64 f, .int .i64 a, .int .i64 m] 39))
        have hb2 : w.heap.size ≤ (wa.alloc (.cells #[.int .i64 f, .int .i64 a, .int .i64 m] 39)).heap.size := by rw [World.size_alloc]; have := hEw2.le; have := hEa.le; omega
        have hL2 := lot_new (w := wa) hxw
        have HEa := Lib.hid (hEw2.trans hEa)
        clear d0 d1 d2
        obtain ⟨_, _, _, e1, hbb2, e2, _, d0, d1, d2⟩ := (HB1.out.e hEa).get (i := 0) (by omega)
        injection e1 with e1; injection e1 with e1 e1'; subst e1 e1'
        simp at e2; subst e2
        simp only [Nat.zero_mul, Nat.zero_add] at d0 d1 d2
        go_wp2_with (at_builtin; refine wpList_appL _ rfl _ _ rfl w.heap.size _ _ _ _ rfl hO2 _ 1 1 [(f, a, m)] rfl hL2 (by omega) hb2 ?_; intro A' c' w3 hO3 hG3 hB3 hor3)
        go_ret
        exact RetL.mk_ (HF.out) hO3 ((HEa.out.alloc _).up hB3)
end Go.Proofs.Ytgbamgijpgjmgaa
/- The models' Valid, Total, Put; Total, Put, Same. -/
namespace Go.Proofs.Ytgbamgijpgjmgaa
open Go.RowKit

def RetN (w : World) (x : Int) (e : Ending) (w' : World) : Prop := e = .returned (.int .i64 x) ∧ E w w'
set_option maxHeartbeats 2000000 in
theorem refValid_c (A : Option Addr) (n c : Nat) (l : List Lt) (w : World) (h : LotsAt w A n c l) : Calls Try.prog 23 #[.slice A n c] w (RetK w (validB l)) := by
  have hm := h.n63
  have HL := Lib.hid h.len
  go_enter Try.func23, Try.ntmps23
  go_wp2_with fail
  go_loopw [3] (fun ti wr => ∃ k : Nat, k ≤ n ∧ ti = .int .i64 k ∧ E w wr ∧ Hid (l.all possB = (l.drop k).all possB)) (fun ti _ => n - (intOf ti).toNat)
  case atStart => exact ⟨0, Nat.zero_le _, rfl, E.refl _, show _ = _ by simp⟩
  case round =>
    obtain ⟨k, hk, rfl, hE, hV⟩ := hrel
    by_cases hlt : k < n
    · obtain ⟨b, o, x, rfl, hb, hx, hwx, c0, c1, c2⟩ := (h.e hE).get hlt
      have HS := Lib.hid (allB_drop hx)
      have HP := Lib.hid (fun W => refPossible_c x W hwx)
      clear hx hwx
      obtain ⟨f, a, m⟩ := x
      unfold ltV at HP
      simp only at c0 c1 c2
      have hkI : (k : Int) < (n : Int) := by omega
      cases hp : possB (f, a, m)
      · rw [hp] at HP
        have HF := Lib.hid (show validB l = false by rw [validB, hV.out, HS.out, hp, Bool.false_and, Bool.and_false])
        clear hV hp HS
        go_wp2_with fail
        refine (HP.out _).mono ?_
        rintro e w2 ⟨rfl, hE2⟩
        go_wp2_with fail
        go_ret
        exact ⟨ret_bool HF.out.symm, hE.trans hE2⟩
      · rw [hp] at HP
        have HF := Lib.hid (show l.all possB = (l.drop (k + 1)).all possB by rw [hV.out, HS.out, hp]; rfl)
        clear hV hp HS
        go_wp2_with fail
        refine (HP.out _).mono ?_
        rintro e w2 ⟨rfl, hE2⟩
        go_wp2_with fail
        go_roundw
        case rel => exact ⟨k + 1, by omega, by go_num, hE.trans hE2, HF.out⟩
        case measure => simp [intOf]; omega
    · have HF := Lib.hid (show validB l = decide (n ≤ 4096) by
        rw [validB, hV.out, List.drop_eq_nil_of_le (by rw [HL.out]; omega), HL.out]; simp)
      generalize validB l = r at *
      go_wp2_with fail
      go_ret
      exact ⟨ret_bool (by rw [HF.out]; simp; omega), hE⟩

theorem totL_succ {l : List Lt} {k : Nat} {x : Lt} (h : l[k]? = some x) : totL (l.take (k + 1)) = totL (l.take k) + x.2.2 := by
  rw [List.take_add_one, h, totL_app]; simp [totL]
theorem totL_take_le {l : List Lt} (h : ∀ x ∈ l, possB x = true) (k : Nat) : 0 ≤ totL (l.take k) ∧ totL (l.take k) ≤ 1099511627776 * (k : Int) := by
  obtain ⟨h1, h2⟩ := totL_le (l := l.take k) fun x hx => h x (List.mem_of_mem_take hx)
  have : (l.take k).length ≤ k := by rw [List.length_take]; omega
  omega
set_option maxHeartbeats 2000000 in
theorem spTotal_c (A : Option Addr) (n c : Nat) (l : List Lt) (w : World) (h : LotsAt w A n c l) (hp : ∀ x ∈ l, possB x = true) (hn : n ≤ 1000000) : Calls Try.prog 57 #[.slice A n c] w (RetN w (totL l)) := by
  have HL := Lib.hid h.len
  have HP := Lib.hid hp
  clear hp
  go_enter Try.func57, Try.ntmps57
  go_wp2_with fail
  go_loopw [3, 8] (fun ts ti wr => ∃ (k : Nat) (s : Int), k ≤ n ∧ ts = .int .i64 s ∧ ti = .int .i64 k ∧ E w wr ∧ 0 ≤ s ∧ s ≤ 1099511627776 * (k : Int) ∧ Hid (s = totL (l.take k))) (fun _ ti _ => n - (intOf ti).toNat)
  case atStart => exact ⟨0, 0, Nat.zero_le _, rfl, rfl, E.refl _, by omega, by omega, show _ = _ by simp [totL]⟩
  case round =>
    obtain ⟨k, s, hk, rfl, rfl, hE, s0, s1, hS⟩ := hrel
    by_cases hlt : k < n
    · obtain ⟨b, o, x, rfl, hb, hx, hwx, c0, c1, c2⟩ := (h.e hE).get hlt
      have hpx := possB_iff.1 (HP.out x (List.mem_of_getElem? hx))
      have HS := Lib.hid (show s + x.2.2 = totL (l.take (k + 1)) by rw [totL_succ hx, hS.out])
      clear hx hwx
      obtain ⟨f, a, m⟩ := x
      simp only at c0 c1 c2 hpx HS
      have hkI : (k : Int) < (n : Int) := by omega
      go_wp2_with fail
      go_roundw
      case rel => exact ⟨k + 1, s + m, by omega, rfl, by go_num, hE.alloc _, by omega, by omega, HS⟩
      case measure => simp [intOf]; omega
    · have HF := Lib.hid (show s = totL l by rw [hS.out, List.take_of_length_le (by rw [HL.out]; omega)])
      go_wp2_with fail
      go_ret
      exact ⟨ret_int HF.out, hE⟩
set_option maxHeartbeats 2000000 in
theorem total_c (A : Option Addr) (n c : Nat) (l : List Lt) (w : World) (h : LotsAt w A n c l) : Calls Try.prog 24 #[.slice A n c] w (RetN w (totalS l)) := by
  have HV := Lib.hid (valid_c A n c l w h)
  cases hv : validB l
  · rw [hv] at HV
    have HF := Lib.hid (show totalS l = 0 by rw [totalS, hv]; rfl)
    clear hv
    go_enter Try.func24, Try.ntmps24
    go_wp2_with fail
    refine HV.out.mono ?_
    rintro e w2 ⟨rfl, hE2⟩
    go_wp2_with fail
    go_ret
    exact ⟨ret_int HF.out.symm, hE2⟩
  · rw [hv] at HV
    have HF := Lib.hid (show totalS l = totL l by rw [totalS, hv]; rfl)
    obtain ⟨v1, v2⟩ := validB_iff.1 hv
    have hl := h.len
    have HT := Lib.hid (fun W hE => spTotal_c A n c l W (h.e hE) v2 (by omega))
    clear hv v1 v2 hl
    go_enter Try.func24, Try.ntmps24
    go_wp2_with fail
    refine HV.out.mono ?_
    rintro e w2 ⟨rfl, hE2⟩
    go_wp2_with fail
    refine (HT.out _ hE2).mono ?_
    rintro e w3 ⟨rfl, hE3⟩
    go_wp2_with fail
    go_ret
    exact ⟨ret_int HF.out.symm, hE2.trans hE3⟩
set_option maxHeartbeats 2000000 in
theorem refTotal_c (A : Option Addr) (n c : Nat) (l : List Lt) (w : World) (h : LotsAt w A n c l) : Calls Try.prog 15 #[.slice A n c] w (RetN w (totalS l)) := by
  have HV := Lib.hid (refValid_c A n c l w h)
  have hm := h.n63
  cases hv : validB l
  · rw [hv] at HV
    have HF := Lib.hid (show totalS l = 0 by rw [totalS, hv]; rfl)
    clear hv
    go_enter Try.func15, Try.ntmps15
    go_wp2_with fail
    refine HV.out.mono ?_
    rintro e w2 ⟨rfl, hE2⟩
    go_wp2_with fail
    refine wp_loop_rounds 1 ?_
    rw [rounds_succ]
    go_wp2_with fail
    all_goals go_ret
    all_goals exact ⟨ret_int HF.out.symm, hE2⟩
  · rw [hv] at HV
    have HF := Lib.hid (show totalS l = totL l by rw [totalS, hv]; rfl)
    obtain ⟨v1, v2⟩ := validB_iff.1 hv
    have HL := Lib.hid h.len
    have hn : n ≤ 4096 := by rw [← HL.out]; exact v1
    have HP := Lib.hid v2
    clear hv v1 v2
    go_enter Try.func15, Try.ntmps15
    go_wp2_with fail
    refine HV.out.mono ?_
    rintro e w2 ⟨rfl, hE2⟩
    go_wp2_with fail
    go_loopw [3, 5] (fun ts ti wr => ∃ (k : Nat) (s : Int), k ≤ n ∧ ts = .int .i64 s ∧ ti = .int .i64 k ∧ E w wr ∧ 0 ≤ s ∧ s ≤ 1099511627776 * (k : Int) ∧ Hid (s = totL (l.take k))) (fun _ ti _ => n - (intOf ti).toNat)
    case atStart => exact ⟨0, 0, Nat.zero_le _, rfl, rfl, hE2, by omega, by omega, show _ = _ by simp [totL]⟩
    case round =>
      obtain ⟨k, s, hk, rfl, rfl, hE, s0, s1, hS⟩ := hrel
      by_cases hlt : k < n
      · obtain ⟨b, o, x, rfl, hb, hx, hwx, c0, c1, c2⟩ := (h.e hE).get hlt
        have hpx := possB_iff.1 (HP.out x (List.mem_of_getElem? hx))
        have HS := Lib.hid (show s + x.2.2 = totL (l.take (k + 1)) by rw [totL_succ hx, hS.out])
        clear hx hwx
        obtain ⟨f, a, m⟩ := x
        simp only at c0 c1 c2 hpx HS
        have hkI : (k : Int) < (n : Int) := by omega
        go_wp2_with fail
        go_roundw
        case rel => exact ⟨k + 1, s + m, by omega, rfl, by go_num, hE, by omega, by omega, HS⟩
        case measure => simp [intOf]; omega
      · have HFF := Lib.hid (show s = totalS l by rw [HF.out, hS.out, List.take_of_length_le (by rw [HL.out]; omega)])
        go_wp2_with fail
        go_ret
        exact ⟨ret_int HFF.out, hE⟩
end Go.Proofs.Ytgbamgijpgjmgaa
/- Clone, Put and its model, Same. -/
namespace Go.Proofs.Ytgbamgijpgjmgaa
open Go.RowKit Go.Shelf

set_option maxHeartbeats 400000 in
theorem cloneL_c (A : Option Addr) (n c : Nat) (l : List Lt) (w : World) (h : LotsAt w A n c l) (hn : n ≤ 1000000) :
    Calls Try.prog 59 #[.slice A n c] w (RetL w l) := by
  rcases A with _ | ad
  · have h0 : n = 0 := by
      rcases Nat.eq_zero_or_pos n with h0 | h0
      · exact h0
      · obtain ⟨_, _, hh, _⟩ := h.at_ h0; cases hh
    have hl : l = [] := List.eq_nil_of_length_eq_zero (by rw [h.len, h0])
    have HL := Lib.hid hl
    clear h0 hl hn
    have hnil : ∀ W : World, (binOp .eql 22 (.slice none n c) (.slice none 0 0)).run Try.prog W = .ok (.bool true) W := fun W => Lib.run_eql_slice_nil W _ _ _ _ _ _ _ Try.underlying22
    go_enter Try.func59, Try.ntmps59
    go_wp2
    go_ret
    exact RetL.mk_ HL.out (OwnL.nil _ _) (E.refl _)
  · have hE := (E.refl w).alloc (.cells #[] 39)
    have h' := h.e hE
    have hb : w.heap.size ≤ (w.alloc (.cells #[] 39)).heap.size := hE.le
    have HN := Lib.hid hn
    clear hn
    have hnil : ∀ W : World, (binOp .eql 22 (.slice (some ad) n c) (.slice none 0 0)).run Try.prog W = .ok (.bool false) W := fun W => Lib.run_eql_slice_nil W _ _ _ _ _ _ _ Try.underlying22
    go_enter Try.func59, Try.ntmps59
    go_wp2_with (at_builtin; refine wpList_appL _ rfl _ _ rfl w.heap.size _ _ _ [] rfl (OwnL.empty w _ (Nat.le_refl _)) _ _ _ l rfl h' (by have := HN.out; omega) hb ?_; intro A' c' w1 hO hG hB hor)
    go_ret
    exact RetL.mk_ rfl (by simpa using hO) (hE.up hB)

theorem retPut_e {w0 w w' : World} {A : Option Addr} {l : List Lt} {e : Ending} (hE : E w0 w) (hO : ∀ b, ob A = some b → w0.heap.size ≤ b) (h : RetPut w w0.heap.size A l e w') : RetL w0 l e w' := by
  obtain ⟨A', n', c', rfl, hO', hG, _⟩ := h
  exact ⟨A', n', c', rfl, hO', hE.grown hG (fun k hk => hO k hk)⟩
set_option maxHeartbeats 4000000 in
set_option maxRecDepth 100000 in
theorem lPut_c (x : Lt) (A : Option Addr) (n c : Nat) (l : List Lt) (w : World) (h : LotsAt w A n c l) (hxw : WfL x) : Calls Try.prog 25 #[.slice A n c, ltV x] w (RetL w (putS l x)) := by
  obtain ⟨w1, hw1⟩ : ∃ w1, w.alloc (.cells #[.int .i64 x.1, .int .i64 x.2.1, .int .i64 x.2.2] 39) = w1 := ⟨_, rfl⟩
  have hE1 : E w w1 := by rw [← hw1]; exact (E.refl w).alloc _
  have hB1 : LotsAt w1 (some ⟨w.heap.size, 0, none⟩) 1 1 [x] := by rw [← hw1]; exact lot_new hxw
  have HW1 := Lib.hid hw1
  clear hw1
  have HV := Lib.hid (fun W (hE : E w1 W) => valid_c A n c l W (h.e (hE1.trans hE)))
  have HP := Lib.hid (fun W => possible_c x W hxw)
  have hbox := fun W (hE : E w1 W) => (hB1.e hE).get (i := 0) (by omega)
  cases hv : validB l
  · rw [hv] at HV
    have HF := Lib.hid (show putS l x = [] by rw [putS, hv]; rfl)
    clear hv hbox
    unfold ltV
    go_enter Try.func25, Try.ntmps25
    go_upto_region 1 with fail
    rw [HW1.out]
    go_wp2_with fail
    refine (HV.out _ (E.refl _)).mono ?_
    rintro e w2 ⟨rfl, hE2⟩
    go_wp2_with fail
    go_ret
    exact RetL.mk_ HF.out (OwnL.nil _ _) (hE1.trans hE2)
  · rw [hv] at HV
    cases hp : possB x
    · rw [hp] at HP
      have HF := Lib.hid (show putS l x = [] by rw [putS, hv, hp]; rfl)
      clear hv hp
      obtain ⟨f, a, m⟩ := x
      unfold ltV at *
      simp only at HW1 hbox
      go_enter Try.func25, Try.ntmps25
      go_upto_region 1 with fail
      rw [HW1.out]
      go_wp2_with fail
      refine (HV.out _ (E.refl _)).mono ?_
      rintro e w2 ⟨rfl, hE2⟩
      obtain ⟨_, _, _, e1, hbb, e2, _, d0, d1, d2⟩ := hbox _ hE2
      injection e1 with e1; injection e1 with e1 e1'; subst e1 e1'
      simp at e2; subst e2
      simp only [Nat.zero_mul, Nat.zero_add] at d0 d1 d2
      clear hbox
      go_wp2_with fail
      refine (HP.out _).mono ?_
      rintro e w3 ⟨rfl, hE3⟩
      go_wp2_with fail
      go_ret
      exact RetL.mk_ HF.out (OwnL.nil _ _) ((hE1.trans hE2).trans hE3)
    · rw [hp] at HP
      have HF := Lib.hid (show putS l x = addL l x by rw [putS, hv, hp]; rfl)
      obtain ⟨v1, v2⟩ := validB_iff.1 hv
      have hn : n ≤ 4096 := by rw [← h.len]; exact v1
      have HC := Lib.hid (fun W (hE : E w1 W) => cloneL_c A n c l W (h.e (hE1.trans hE)) (by omega))
      have HU := Lib.hid (fun W A' n' c' base (hO : OwnL W base A' n' c' l) (hb : base ≤ W.heap.size) (hn' : n' ≤ 1000000) => put_c x A' n' c' base l W hO v2 (fun _ => hp) hxw hb hn')
      have HL := Lib.hid h.len
      clear hv hp v1 v2
      obtain ⟨f, a, m⟩ := x
      unfold ltV at *
      simp only at HW1 hbox
      go_enter Try.func25, Try.ntmps25
      go_upto_region 1 with fail
      rw [HW1.out]
      go_wp2_with fail
      refine (HV.out _ (E.refl _)).mono ?_
      rintro e w2 ⟨rfl, hE2⟩
      obtain ⟨_, _, _, e1, hbb, e2, _, d0, d1, d2⟩ := hbox _ hE2
      injection e1 with e1; injection e1 with e1 e1'; subst e1 e1'
      simp at e2; subst e2
      simp only [Nat.zero_mul, Nat.zero_add] at d0 d1 d2
      go_wp2_with fail
      refine (HP.out _).mono ?_
      rintro e w3 ⟨rfl, hE3⟩
      clear d0 d1 d2
      have hE13 := hE2.trans hE3
      obtain ⟨_, _, _, e1, hbb, e2, _, d0, d1, d2⟩ := hbox _ hE13
      injection e1 with e1; injection e1 with e1 e1'; subst e1 e1'
      simp at e2; subst e2
      simp only [Nat.zero_mul, Nat.zero_add] at d0 d1 d2
      clear hbox HV HP HW1 hE2 hE3 hB1 h
      go_wp2_with fail
      go_region_held3 (fun w' => w3.heap.size ≤ w'.heap.size ∧ ∀ b o, b < w3.heap.size → w'.cell? ⟨b, o, none⟩ = w3.cell? ⟨b, o, none⟩) (first | exact keepE ((E.refl _).drew) | exact keepE hEa | exact keepE hEb)
        (first
          | (go_at_call 59; refine (HC.out _ (hE13.trans ((E.refl w3).drew))).mono ?_; rintro e wa ⟨A4, n4, c4, rfl, hO4, hE4⟩; have hEa := ((E.refl w3).drew).trans hE4)
          | (go_at_call 58; refine (HU.out _ _ _ _ _ hO4 hE4.le (by have := hO4.1; have := HL.out; omega)).mono ?_; rintro e wb ⟨A5, n5, c5, rfl, hO5, hG5, hor5⟩; have hEb := hEa.grown hG5 (fun k hk => (hO4.ltN k hk).1)))
      all_goals go_wp2_with fail
      go_ret
      exact RetL.mk_ HF.out (hO5.rebase ((hE1.trans hE13).le)) ((hE1.trans hE13).trans hEb)
end Go.Proofs.Ytgbamgijpgjmgaa
/- The models' Put; Same; Has. -/
namespace Go.Proofs.Ytgbamgijpgjmgaa
open Go.RowKit Go.Shelf

set_option maxHeartbeats 4000000 in
set_option maxRecDepth 100000 in
theorem refPut_c (x : Lt) (A : Option Addr) (n c : Nat) (l : List Lt) (w : World) (h : LotsAt w A n c l) (hxw : WfL x) : Calls Try.prog 26 #[.slice A n c, ltV x] w (RetL w (putS l x)) := by
  obtain ⟨w1, hw1⟩ : ∃ w1, w.alloc (.cells #[.int .i64 x.1, .int .i64 x.2.1, .int .i64 x.2.2] 39) = w1 := ⟨_, rfl⟩
  have hE1 : E w w1 := by rw [← hw1]; exact (E.refl w).alloc _
  have hB1 : LotsAt w1 (some ⟨w.heap.size, 0, none⟩) 1 1 [x] := by rw [← hw1]; exact lot_new hxw
  have HW1 := Lib.hid hw1
  clear hw1
  have HV := Lib.hid (fun W (hE : E w1 W) => refValid_c A n c l W (h.e (hE1.trans hE)))
  have HP := Lib.hid (fun W => refPossible_c x W hxw)
  have hbox := fun W (hE : E w1 W) => (hB1.e hE).get (i := 0) (by omega)
  have HA : validB l = true → possB x = true → ∀ W, E w1 W → Calls Try.prog 54 #[.slice A n c, ltV x] W (RetL W (putS l x)) := fun hv hp W hE => by
    obtain ⟨v1, v2⟩ := validB_iff.1 hv
    have hl := h.len
    rw [putS, hv, hp]
    exact refAdd_c x A n c l W (h.e (hE1.trans hE)) v2 (fun _ => hp) hxw (by omega)
  cases hv : validB l
  · rw [hv] at HV
    have HF := Lib.hid (show putS l x = [] by rw [putS, hv]; rfl)
    cases hp : possB x
    all_goals
      rw [hp] at HP
      clear hv hp HA
      obtain ⟨f, a, m⟩ := x
      unfold ltV at *
      simp only at HW1 hbox
      go_enter Try.func26, Try.ntmps26
      go_upto_region 1 with fail
      rw [HW1.out]
      go_wp2_with fail
      refine (HV.out _ (E.refl _)).mono ?_
      rintro e w2 ⟨rfl, hE2⟩
      obtain ⟨_, _, _, e1, hbb, e2, _, d0, d1, d2⟩ := hbox _ hE2
      injection e1 with e1; injection e1 with e1 e1'; subst e1 e1'
      simp at e2; subst e2
      simp only [Nat.zero_mul, Nat.zero_add] at d0 d1 d2
      clear hbox
      go_wp2_with fail
      refine (HP.out _).mono ?_
      rintro e w3 ⟨rfl, hE3⟩
      go_wp2_with fail
      go_ret
      exact RetL.mk_ HF.out (OwnL.nil _ _) ((hE1.trans hE2).trans hE3)
  · rw [hv] at HV
    cases hp : possB x
    · rw [hp] at HP
      have HF := Lib.hid (show putS l x = [] by rw [putS, hv, hp]; rfl)
      clear hv hp HA
      obtain ⟨f, a, m⟩ := x
      unfold ltV at *
      simp only at HW1 hbox
      go_enter Try.func26, Try.ntmps26
      go_upto_region 1 with fail
      rw [HW1.out]
      go_wp2_with fail
      refine (HV.out _ (E.refl _)).mono ?_
      rintro e w2 ⟨rfl, hE2⟩
      obtain ⟨_, _, _, e1, hbb, e2, _, d0, d1, d2⟩ := hbox _ hE2
      injection e1 with e1; injection e1 with e1 e1'; subst e1 e1'
      simp at e2; subst e2
      simp only [Nat.zero_mul, Nat.zero_add] at d0 d1 d2
      clear hbox
      go_wp2_with fail
      refine (HP.out _).mono ?_
      rintro e w3 ⟨rfl, hE3⟩
      go_wp2_with fail
      go_ret
      exact RetL.mk_ HF.out (OwnL.nil _ _) ((hE1.trans hE2).trans hE3)
    · rw [hp] at HP
      have HA := Lib.hid (HA hv hp)
      clear hv hp
      obtain ⟨f, a, m⟩ := x
      unfold ltV at *
      simp only at HW1 hbox
      go_enter Try.func26, Try.ntmps26
      go_upto_region 1 with fail
      rw [HW1.out]
      go_wp2_with fail
      refine (HV.out _ (E.refl _)).mono ?_
      rintro e w2 ⟨rfl, hE2⟩
      obtain ⟨_, _, _, e1, hbb, e2, _, d0, d1, d2⟩ := hbox _ hE2
      injection e1 with e1; injection e1 with e1 e1'; subst e1 e1'
      simp at e2; subst e2
      simp only [Nat.zero_mul, Nat.zero_add] at d0 d1 d2
      go_wp2_with fail
      refine (HP.out _).mono ?_
      rintro e w3 ⟨rfl, hE3⟩
      clear d0 d1 d2
      have hE13 := hE2.trans hE3
      obtain ⟨_, _, _, e1, hbb, e2, _, d0, d1, d2⟩ := hbox _ hE13
      injection e1 with e1; injection e1 with e1 e1'; subst e1 e1'
      simp at e2; subst e2
      simp only [Nat.zero_mul, Nat.zero_add] at d0 d1 d2
      clear hbox HV HP HW1 hE2 hE3 hB1 h
      go_wp2_with fail
      refine (HA.out _ hE13).mono ?_
      rintro e w4 ⟨A4, n4, c4, rfl, hO4, hE4⟩
      go_wp2_with fail
      go_ret
      exact RetL.mk_ rfl (hO4.rebase ((hE1.trans hE13).le)) ((hE1.trans hE13).trans hE4)

/-- two lots, as '!=' tells them apart -/
def neqL (x y : Lt) : Bool := !(decide (x = y))
set_option maxHeartbeats 2000000 in
set_option maxRecDepth 100000 in
theorem sameL_c (A1 A2 : Option Addr) (n1 c1 n2 c2 : Nat) (l1 l2 : List Lt) (w : World) (h1 : LotsAt w A1 n1 c1 l1) (h2 : LotsAt w A2 n2 c2 l2) :
    Calls Try.prog 18 #[.slice A1 n1 c1, .slice A2 n2 c2] w (RetK w (decide (l1 = l2))) := by
  have hm1 := h1.n63
  have hm2 := h2.n63
  by_cases hn : n1 = n2
  · subst hn
    have hl1 := h1.len
    have hl2 := h2.len
    have HS := Lib.hid (show (l1 = l2) = (l1.drop 0 = l2.drop 0) by simp)
    obtain ⟨r, hr⟩ : ∃ r, decide (l1 = l2) = r := ⟨_, rfl⟩
    rw [hr]
    have HR := Lib.hid hr
    have HL := Lib.hid (And.intro hl1 hl2)
    clear hr hl1 hl2
    go_enter Try.func18, Try.ntmps18
    go_wp2_with fail
    go_loopw [5] (fun ti wr => ∃ k : Nat, k ≤ n1 ∧ ti = .int .i64 k ∧ E w wr ∧ Hid (r = decide (l1.drop k = l2.drop k))) (fun ti _ => n1 - (intOf ti).toNat)
    case atStart => exact ⟨0, Nat.zero_le _, rfl, E.refl _, show _ = _ by rw [← HR.out]; simp⟩
    case round =>
      obtain ⟨k, hk, rfl, hE, hV⟩ := hrel
      by_cases hlt : k < n1
      · obtain ⟨b, o, x, rfl, hb, hx, hwx, c0, c1, c2⟩ := (h1.e hE).get hlt
        obtain ⟨b', o', y, rfl, hb', hy, hwy, e0, e1, e2⟩ := (h2.e hE).get hlt
        have HD := Lib.hid (And.intro (drop_at hx) (drop_at hy))
        clear hx hy hwx hwy
        have hkI : (k : Int) < (n1 : Int) := by omega
        by_cases hxy : x = y
        · subst hxy
          have HF := Lib.hid (show r = decide (l1.drop (k + 1) = l2.drop (k + 1)) by
            rw [hV.out, HD.out.1, HD.out.2]; simp)
          obtain ⟨f, a, m⟩ := x
          simp only at c0 c1 c2 e0 e1 e2
          clear hV HD
          go_wp2_with fail
          go_region
          all_goals go_wp2_with fail
          exact ⟨⟨k + 1, by omega, by go_num, hE.drew, HF.out⟩, by simp [intOf]; omega⟩
        · have HF := Lib.hid (show r = false by rw [hV.out, HD.out.1, HD.out.2]; simp [hxy])
          obtain ⟨f, a, m⟩ := x
          obtain ⟨f', a', m'⟩ := y
          simp only at c0 c1 c2 e0 e1 e2
          have hor : ¬ f = f' ∨ (f = f' ∧ ¬ a = a') ∨ (f = f' ∧ a = a' ∧ ¬ m = m') := by
            by_cases h1 : f = f'
            · by_cases h2 : a = a'
              · exact .inr (.inr ⟨h1, h2, fun h3 => hxy (by rw [h1, h2, h3])⟩)
              · exact .inr (.inl ⟨h1, h2⟩)
            · exact .inl h1
          clear hV HD hxy
          rcases hor with hf | ⟨rfl, ha⟩ | ⟨rfl, rfl, hm'⟩
          all_goals
            go_wp2_with fail
            go_region
            go_wp2_with fail
            go_ret
            exact ⟨ret_bool HF.out.symm, hE.drew⟩
      · have HF := Lib.hid (show r = true by
          rw [hV.out, List.drop_eq_nil_of_le (by rw [HL.out.1]; omega), List.drop_eq_nil_of_le (by rw [HL.out.2]; omega)]; rfl)
        go_wp2_with fail
        go_ret
        exact ⟨ret_bool HF.out.symm, hE⟩
  · have HF := Lib.hid (show decide (l1 = l2) = false by rw [decide_eq_false_iff_not]; intro e; subst e; exact hn (h1.len.symm.trans h2.len))
    have hnI : ((n1 : Int) != (n2 : Int)) = true := by simp; omega
    go_enter Try.func18, Try.ntmps18
    go_wp2_with fail
    go_ret
    exact ⟨ret_bool HF.out.symm, E.refl _⟩
end Go.Proofs.Ytgbamgijpgjmgaa
