/- Lemmas of the claim, joined: WD WE WF WH. No condition. -/
import Derived.Test.YtmeplpiamkaniaaJA
import Derived.Test.YtmeplpiamkaniaaJC
/- The model's insert. -/
namespace Go.Proofs.Ytmeplpiamkaniaa
set_option linter.unusedVariables false
set_option linter.unusedSimpArgs false
open Go.RowKit

theorem insF_take {s : List Lt} {k : Nat} {x : Lt} (l : Lt) (h : s[k]? = some x) : insF (s.take (k + 1)) l = insStep l (insF (s.take k) l) x := by rw [List.take_add_one, h]; exact insF_snoc _ _ _
theorem insStep_b {l x : Lt} {b a : List Lt} {f t : Int} (h : x.1 < l.1 ∨ (x.1 = l.1 ∧ x.2.1 + x.2.2 < f)) : insStep l ⟨b, a, f, t⟩ x = ⟨b ++ [x], a, f, t⟩ := by unfold insStep; rw [if_pos h]
theorem insStep_a {l x : Lt} {b a : List Lt} {f t : Int} (h : ¬ (x.1 < l.1 ∨ (x.1 = l.1 ∧ x.2.1 + x.2.2 < f))) (h2 : l.1 < x.1 ∨ t < x.2.1) : insStep l ⟨b, a, f, t⟩ x = ⟨b, a ++ [x], f, t⟩ := by unfold insStep; rw [if_neg h, if_pos h2]
theorem insStep_m {l x : Lt} {b a : List Lt} {f t : Int} (h : ¬ (x.1 < l.1 ∨ (x.1 = l.1 ∧ x.2.1 + x.2.2 < f))) (h2 : ¬ (l.1 < x.1 ∨ t < x.2.1)) : insStep l ⟨b, a, f, t⟩ x = ⟨b, a, min f x.2.1, max t (x.2.1 + x.2.2)⟩ := by unfold insStep; rw [if_neg h, if_neg h2]
set_option maxHeartbeats 8000000 in
set_option maxRecDepth 100000 in
theorem refInsert_c (x : Lt) (A : Option Addr) (n c : Nat) (s : List Lt) (w : World) (h : LotsAt w A n c s) (hs : ∀ y ∈ s, possB y = true) (hx : possB x = true) (hxw : WfL x) (hn : n ≤ 1000000) :
    Calls Try.prog 87 #[.slice A n c, ltV x] w (RetL w (insM s x)) := by
  obtain ⟨w1, hw1⟩ : ∃ w1, w.alloc (.cells #[.int .i64 x.1, .int .i64 x.2.1, .int .i64 x.2.2] 32) = w1 := ⟨_, rfl⟩
  have hE1 : E w w1 := by rw [← hw1]; exact (E.refl w).alloc _
  have hB1 : LotsAt w1 (some ⟨w.heap.size, 0, none⟩) 1 1 [x] := by rw [← hw1]; exact lot_new hxw
  have hA1 := h.e hE1
  have hle1 := hE1.le
  have hm63 := h.n63
  have HLen := Lib.hid h.len
  have HW1 := Lib.hid hw1
  have HE01 := Lib.hid hE1
  have HFac := Lib.hid (fun k => ins_facts x hx (s.take k) (fun y hy => hs y (List.mem_of_mem_take hy)))
  have HPoss := Lib.hid hs
  have HStep := Lib.hid (fun k y (hy : s[k]? = some y) => insF_take (s := s) (k := k) x hy)
  have HIns : ∀ b a f t, insF (s.take n) x = ⟨b, a, f, t⟩ → insM s x = b ++ [(x.1, f, t - f)] ++ a := fun b a f t he => by
    rw [List.take_of_length_le (by have := h.len; omega)] at he
    unfold insM; rw [he]
  have HI := Lib.hid HIns
  have hxx := possB_iff.1 hx
  have HSB := Lib.hid (fun y b a f t h => insStep_b (l := x) (x := y) (b := b) (a := a) (f := f) (t := t) h)
  have HSA := Lib.hid (fun y b a f t h h2 => insStep_a (l := x) (x := y) (b := b) (a := a) (f := f) (t := t) h h2)
  have HSM := Lib.hid (fun y b a f t h h2 => insStep_m (l := x) (x := y) (b := b) (a := a) (f := f) (t := t) h h2)
  have HSt0 := Lib.hid (show insF (s.take 0) x = ⟨[], [], x.2.1, x.2.1 + x.2.2⟩ from rfl)
  obtain ⟨_, _, _, e1, hbb, e2, _, d0, d1, d2⟩ := hB1.get (i := 0) (by omega)
  injection e1 with e1; injection e1 with e1 e1'; subst e1 e1'
  simp at e2; subst e2
  simp only [Nat.zero_mul, Nat.zero_add] at d0 d1 d2
  have HB1 := Lib.hid hB1
  clear hw1 hB1 HIns hs hx hE1 h
  generalize insM s x = r at *
  obtain ⟨lf, la, ln⟩ := x
  unfold ltV
  simp only at hxx d0 d1 d2 HW1 HI HSt0 HSB HSA HSM
  have hwr0 : IntKind.i64.wrap (la + ln) = la + ln := by rw [IntKind.wrap_i64]; omega
  go_enter Try.func87, Try.ntmps87
  go_upto_region 2 with fail
  rw [HW1.out]
  clear HW1
  go_wp2_with fail
  clear d0 d1 d2
  go_loopw [5, 6, 7, 8, 9] (fun t5 t6 t7 t8 ti wr => ∃ (k n1 c1 n2 c2 : Nat) (A1 A2 : Option Addr) (b a : List Lt) (f t : Int), k ≤ n ∧ ti = .int .i64 k ∧ t5 = .slice A1 n1 c1 ∧ t6 = .slice A2 n2 c2 ∧ t7 = .int .i64 f ∧ t8 = .int .i64 t ∧ OwnL wr w1.heap.size A1 n1 c1 b ∧ OwnL wr w1.heap.size A2 n2 c2 a ∧ apartS A1 A2 ∧ E w1 wr ∧ Hid (insF (s.take k) (lf, la, ln) = ⟨b, a, f, t⟩)) (fun _ _ _ _ ti _ => n - (intOf ti).toNat)
  case atStart => exact ⟨0, 0, 0, 0, 0, none, none, [], [], la, la + ln, Nat.zero_le _, rfl, rfl, rfl, rfl, rfl, OwnL.nil _ _, OwnL.nil _ _, apart_none _, E.refl _, HSt0.out⟩
  case round =>
    obtain ⟨k, n1, c1, n2, c2, A1, A2, b, a, f, t, hk, rfl, rfl, rfl, rfl, rfl, hO1, hO2, hap, hE, hI⟩ := hrel
    have hfc := HFac.out k
    rw [hI.out] at hfc
    obtain ⟨_, _, r0, r1, r2, r3⟩ := hfc
    simp only at r0 r1 r2 r3
    have hl1 := hO1.1
    have hl2 := hO2.1
    have hkl : (s.take k).length ≤ k := List.length_take_le _ _
    have hn12 : n1 + n2 ≤ 1000000 := by omega
    clear r3 hl1 hl2 hkl
    obtain ⟨_, _, _, e1, hbb2, e2, _, d0, d1, d2⟩ := (HB1.out.e hE).get (i := 0) (by omega)
    injection e1 with e1; injection e1 with e1 e1'; subst e1 e1'
    simp at e2; subst e2
    simp only [Nat.zero_mul, Nat.zero_add] at d0 d1 d2
    have hwle : w1.heap.size ≤ wr.heap.size := hE.le
    by_cases hlt : k < n
    · obtain ⟨bb, o, y, rfl, hb, hy, hwy, g0, g1, g2⟩ := (hA1.e hE).get hlt
      have hkI : (k : Int) < (n : Int) := by omega
      have hyy := possB_iff.1 (HPoss.out y (List.mem_of_getElem? hy))
      have HY := Lib.hid (HStep.out k y hy)
      rw [hI.out] at HY
      have hwr1 : IntKind.i64.wrap (y.2.1 + y.2.2) = y.2.1 + y.2.2 := by rw [IntKind.wrap_i64]; omega
      have HN := Lib.hid (show n1 + 1 ≤ 1099511627776 ∧ n2 + 1 ≤ 1099511627776 by omega)
      have hHB := HSB.out y b a f t
      have hHA := HSA.out y b a f t
      have hHM := HSM.out y b a f t
      obtain ⟨yf, ya, yn⟩ := y
      simp only at g0 g1 g2 hyy hwr1 hHB hHA hHM
      have hO1a := hO1.e (((E.refl wr).alloc (.cells #[.int .i64 yf, .int .i64 ya, .int .i64 yn] 32)).alloc (.cells #[.int .i64 yf, .int .i64 ya, .int .i64 yn] 32))
      have hO2a := hO2.e (((E.refl wr).alloc (.cells #[.int .i64 yf, .int .i64 ya, .int .i64 yn] 32)).alloc (.cells #[.int .i64 yf, .int .i64 ya, .int .i64 yn] 32))
      have hO1b := hO1.e ((E.refl wr).alloc (.cells #[.int .i64 yf, .int .i64 ya, .int .i64 yn] 32))
      have hO2b := hO2.e ((E.refl wr).alloc (.cells #[.int .i64 yf, .int .i64 ya, .int .i64 yn] 32))
      have hEa := (hE.alloc (.cells #[.int .i64 yf, .int .i64 ya, .int .i64 yn] 32)).alloc (.cells #[.int .i64 yf, .int .i64 ya, .int .i64 yn] 32)
      have hEb := hE.alloc (.cells #[.int .i64 yf, .int .i64 ya, .int .i64 yn] 32)
      have hLn := lot_new (w := wr.alloc (.cells #[.int .i64 yf, .int .i64 ya, .int .i64 yn] 32)) hwy
      rw [World.size_alloc] at hLn
      have hba : w1.heap.size ≤ ((wr.alloc (.cells #[.int .i64 yf, .int .i64 ya, .int .i64 yn] 32)).alloc (.cells #[.int .i64 yf, .int .i64 ya, .int .i64 yn] 32)).heap.size := by rw [World.size_alloc, World.size_alloc]; omega
      have hb1 : ∀ q, ob A1 = some q → q < wr.heap.size := fun q hq => (hO1.ltN q hq).2
      have hb2 : ∀ q, ob A2 = some q → q < wr.heap.size := fun q hq => (hO2.ltN q hq).2
      have HLT := Lib.hid (And.intro hb1 hb2)
      have HR := Lib.hid (And.intro r0 (And.intro r1 r2))
      have HE1 := Lib.hid hle1
      clear hy hb1 hb2 r0 r1 r2 hle1
      by_cases q1 : yf < lf
      · have s1 : decide (yf < lf) = true := by simpa using q1
        have HF := Lib.hid (HY.out.trans (hHB (.inl q1)))
        clear hHB hHA hHM HY q1
        go_wp2_with (at_builtin; refine wpList_appL _ rfl _ _ rfl w1.heap.size A1 n1 c1 b rfl hO1a _ 1 1 [(yf, ya, yn)] rfl hLn HN.out.1 hba ?_; intro A3 c3 w3 hO3 hG3 hB3 hor3)
        have hO2c := hO2a.kept hG3 hap.symm
        have hap3 : apartS A3 A2 := by
          rcases hor3 with hor3 | hor3
          · intro q hq; rw [hor3] at hq; exact hap q hq
          · intro q hq hq2; rw [hor3] at hq; injection hq with hq; have := HLT.out.2 q hq2; simp only [World.size_alloc] at hq; omega
        have hE3 : E w1 w3 := hEa.grown hG3 (fun q hq => (hO1.ltN q hq).1)
        go_roundw
        case rel => exact ⟨k + 1, n1 + 1, c3, n2, c2, A3, A2, _, _, _, _, by omega, by go_num, rfl, rfl, rfl, rfl, hO3, hO2c, hap3, hE3, HF.out⟩
        case measure => simp [intOf]; omega
      · have s1 : decide (yf < lf) = false := by simpa using q1
        by_cases q2 : yf = lf
        · have s2 : (yf == lf) = true := by simpa using q2
          by_cases q3 : ya + yn < f
          · have s3 : decide (ya + yn < f) = true := by simpa using q3
            have HF := Lib.hid (HY.out.trans (hHB (.inr ⟨q2, q3⟩)))
            clear hHB hHA hHM HY q1 q2 q3
            go_wp2_with (at_builtin; refine wpList_appL _ rfl _ _ rfl w1.heap.size A1 n1 c1 b rfl hO1a _ 1 1 [(yf, ya, yn)] rfl hLn HN.out.1 hba ?_; intro A3 c3 w3 hO3 hG3 hB3 hor3)
            have hO2c := hO2a.kept hG3 hap.symm
            have hap3 : apartS A3 A2 := by
              rcases hor3 with hor3 | hor3
              · intro q hq; rw [hor3] at hq; exact hap q hq
              · intro q hq hq2; rw [hor3] at hq; injection hq with hq; have := HLT.out.2 q hq2; simp only [World.size_alloc] at hq; omega
            have hE3 : E w1 w3 := hEa.grown hG3 (fun q hq => (hO1.ltN q hq).1)
            go_roundw
            case rel => exact ⟨k + 1, n1 + 1, c3, n2, c2, A3, A2, _, _, _, _, by omega, by go_num, rfl, rfl, rfl, rfl, hO3, hO2c, hap3, hE3, HF.out⟩
            case measure => simp [intOf]; omega
          · have s3 : decide (ya + yn < f) = false := by simpa using q3
            have s4 : decide (lf < yf) = false := by simpa using (show ¬ lf < yf by omega)
            by_cases q4 : t < ya
            · have s5 : decide (t < ya) = true := by simpa using q4
              have HF := Lib.hid (HY.out.trans (hHA (by omega) (.inr q4)))
              clear hHB hHA hHM HY q1 q2 q3 q4
              go_wp2_with (at_builtin; refine wpList_appL _ rfl _ _ rfl w1.heap.size A2 n2 c2 a rfl hO2a _ 1 1 [(yf, ya, yn)] rfl hLn HN.out.2 hba ?_; intro A3 c3 w3 hO3 hG3 hB3 hor3)
              have hO1c := hO1a.kept hG3 hap
              have hap3 : apartS A1 A3 := by
                rcases hor3 with hor3 | hor3
                · intro q hq; rw [hor3]; exact hap q hq
                · intro q hq hq2; rw [hor3] at hq2; injection hq2 with hq2; have := HLT.out.1 q hq; simp only [World.size_alloc] at hq2; omega
              have hE3 : E w1 w3 := hEa.grown hG3 (fun q hq => (hO2.ltN q hq).1)
              go_roundw
              case rel => exact ⟨k + 1, n1, c1, n2 + 1, c3, A1, A3, _, _, _, _, by omega, by go_num, rfl, rfl, rfl, rfl, hO1c, hO3, hap3, hE3, HF.out⟩
              case measure => simp [intOf]; omega
            · have s5 : decide (t < ya) = false := by simpa using q4
              have HF := Lib.hid (HY.out.trans (hHM (by omega) (by omega)))
              clear hHB hHA hHM HY q1 q2 q3 q4
              obtain ⟨mi, hmi⟩ : ∃ mi, min f ya = mi := ⟨_, rfl⟩
              obtain ⟨ma, hma⟩ : ∃ ma, max t (ya + yn) = ma := ⟨_, rfl⟩
              rw [hmi, hma] at HF
              have HM1 := Lib.hid hmi
              have HM2 := Lib.hid (show (if ya < f then ya else f) = mi by split <;> omega)
              have HM3 := Lib.hid hma
              have HM4 := Lib.hid (show (if t < ya + yn then ya + yn else t) = ma by split <;> omega)
              clear hmi hma hO1a hO2a hEa
              go_upto_region 13 with fail
              first | rw [HM1.out] | rw [HM2.out]
              clear HM1 HM2
              go_upto_region 6 with fail
              first | rw [HM3.out] | rw [HM4.out]
              clear HM3 HM4
              go_wp2_with fail
              go_roundw
              case rel => exact ⟨k + 1, n1, c1, n2, c2, A1, A2, _, _, _, _, by omega, by go_num, rfl, rfl, rfl, rfl, hO1b, hO2b, hap, hEb, HF.out⟩
              case measure => simp [intOf]; omega
        · have s2 : (yf == lf) = false := by simpa using q2
          have s4 : decide (lf < yf) = true := by simpa using (show lf < yf by omega)
          have HF := Lib.hid (HY.out.trans (hHA (by omega) (.inl (by omega))))
          clear hHB hHA hHM HY q1 q2
          go_wp2_with (at_builtin; refine wpList_appL _ rfl _ _ rfl w1.heap.size A2 n2 c2 a rfl hO2a _ 1 1 [(yf, ya, yn)] rfl hLn HN.out.2 hba ?_; intro A3 c3 w3 hO3 hG3 hB3 hor3)
          have hO1c := hO1a.kept hG3 hap
          have hap3 : apartS A1 A3 := by
            rcases hor3 with hor3 | hor3
            · intro q hq; rw [hor3]; exact hap q hq
            · intro q hq hq2; rw [hor3] at hq2; injection hq2 with hq2; have := HLT.out.1 q hq; simp only [World.size_alloc] at hq2; omega
          have hE3 : E w1 w3 := hEa.grown hG3 (fun q hq => (hO2.ltN q hq).1)
          go_roundw
          case rel => exact ⟨k + 1, n1, c1, n2 + 1, c3, A1, A3, _, _, _, _, by omega, by go_num, rfl, rfl, rfl, rfl, hO1c, hO3, hap3, hE3, HF.out⟩
          case measure => simp [intOf]; omega
    · have hkn : k = n := by omega
      have HF := Lib.hid (HI.out b a f t (by rw [← hI.out, hkn]))
      have hwr4 : IntKind.i64.wrap (t - f) = t - f := by rw [IntKind.wrap_i64]; omega
      have hwl : WfL (lf, f, t - f) := ⟨wf_of_i64 (by simp only; omega) (by have := wf_i64 hxw.1; simp only at this ⊢; omega), wf_of_i64 (by simp only; omega) (by simp only; omega), wf_of_i64 (by simp only; omega) (by simp only; omega)⟩
      have hO1a := hO1.e ((E.refl wr).alloc (.cells #[.int .i64 lf, .int .i64 f, .int .i64 (t - f)] 32))
      have hO2a := hO2.e ((E.refl wr).alloc (.cells #[.int .i64 lf, .int .i64 f, .int .i64 (t - f)] 32))
      have hLn := lot_new (w := wr) hwl
      have hba : w1.heap.size ≤ (wr.alloc (.cells #[.int .i64 lf, .int .i64 f, .int .i64 (t - f)] 32)).heap.size := by rw [World.size_alloc]; omega
      have HEw := Lib.hid (hE.alloc (.cells #[.int .i64 lf, .int .i64 f, .int .i64 (t - f)] 32))
      have hk1 : n1 + 1 ≤ 1099511627776 := by omega
      have hk2 : n1 + 1 + n2 ≤ 1099511627776 := by omega
      have HAp := Lib.hid hap
      clear hkn hI hn12 r0 r1 r2 hwl hap
      go_wp2_with (first
        | (at_builtin; refine wpList_appL _ rfl _ _ rfl w1.heap.size _ (n1 + 1) _ _ rfl hO3 A2 n2 c2 a rfl hO2c.reads hk2 hb3 ?_; intro A4 c4 w4 hO4 hG4 hB4 hor4)
        | (at_builtin; refine wpList_appL _ rfl _ _ rfl w1.heap.size A1 n1 c1 b rfl hO1a _ 1 1 [(lf, f, t - f)] rfl hLn hk1 hba ?_; intro A3 c3 w3 hO3 hG3 hB3 hor3; have hO2c := hO2a.kept hG3 HAp.out.symm; have hb3 := Nat.le_trans hba hB3.size))
      go_ret
      exact RetL.mk_ HF.out (hO4.rebase hle1) (HE01.out.trans ((HEw.out.up hB3).up hB4))
end Go.Proofs.Ytmeplpiamkaniaa
/- The model's subtract. -/
namespace Go.Proofs.Ytmeplpiamkaniaa
set_option linter.unusedVariables false
set_option linter.unusedSimpArgs false
open Go.RowKit

theorem subM_take {s : List Lt} {k : Nat} {y : Lt} (x : Lt) (h : s[k]? = some y) : subM (s.take (k + 1)) x = subM (s.take k) x ++ sub1 x y := by rw [List.take_add_one, h]; exact subM_snoc x y _
theorem sub1_all {x y : Lt} (h : y.1 ≠ x.1 ∨ x.2.1 + x.2.2 ≤ y.2.1 ∨ y.2.1 + y.2.2 ≤ x.2.1) : sub1 x y = [y] := by unfold sub1; rw [if_pos h]
theorem sub1_lr {x y : Lt} (h : ¬ (y.1 ≠ x.1 ∨ x.2.1 + x.2.2 ≤ y.2.1 ∨ y.2.1 + y.2.2 ≤ x.2.1)) : sub1 x y = (if y.2.1 < x.2.1 then [(x.1, y.2.1, x.2.1 - y.2.1)] else []) ++ (if x.2.1 + x.2.2 < y.2.1 + y.2.2 then [(x.1, x.2.1 + x.2.2, y.2.1 + y.2.2 - x.2.1 - x.2.2)] else []) := by unfold sub1; rw [if_neg h]
theorem sub1_two (x y : Lt) : (sub1 x y).length ≤ 2 := by
  rcases sub1_len (x := x) (y := y) with h | h
  · omega
  · exact h.1
theorem subM_two (l : List Lt) (x : Lt) : (subM l x).length ≤ 2 * l.length := by
  induction l with
  | nil => simp [subM_nil]
  | cons y l ih =>
    rw [subM_cons, List.length_append, List.length_cons]
    have := sub1_two x y
    omega
set_option maxHeartbeats 16000000 in
set_option maxRecDepth 100000 in
theorem refSubtract_c (x : Lt) (A : Option Addr) (n c : Nat) (s : List Lt) (w : World) (h : LotsAt w A n c s) (hs : ∀ y ∈ s, possB y = true) (hx : possB x = true) (hxw : WfL x) (hn : n ≤ 100000) :
    Calls Try.prog 131 #[.slice A n c, ltV x] w (RetL w (subM s x)) := by
  obtain ⟨w1, hw1⟩ : ∃ w1, w.alloc (.cells #[.int .i64 x.1, .int .i64 x.2.1, .int .i64 x.2.2] 32) = w1 := ⟨_, rfl⟩
  have hE1 : E w w1 := by rw [← hw1]; exact (E.refl w).alloc _
  have hB1 : LotsAt w1 (some ⟨w.heap.size, 0, none⟩) 1 1 [x] := by rw [← hw1]; exact lot_new hxw
  have hA1 := h.e hE1
  have hle1 := hE1.le
  have hm63 := h.n63
  have HLen := Lib.hid h.len
  have HW1 := Lib.hid hw1
  have HE01 := Lib.hid hE1
  have HPoss := Lib.hid hs
  have HStep := Lib.hid (fun k y (hy : s[k]? = some y) => subM_take (s := s) (k := k) x hy)
  have HEnd := Lib.hid (show subM (s.take n) x = subM s x by rw [List.take_of_length_le (by have := h.len; omega)])
  have HTwo := Lib.hid (fun k => subM_two (s.take k) x)
  have hxx := possB_iff.1 hx
  have HS1 := Lib.hid (fun y h => sub1_all (x := x) (y := y) h)
  have HS2 := Lib.hid (fun y h => sub1_lr (x := x) (y := y) h)
  obtain ⟨_, _, _, e1, hbb, e2, _, d0, d1, d2⟩ := hB1.get (i := 0) (by omega)
  injection e1 with e1; injection e1 with e1 e1'; subst e1 e1'
  simp at e2; subst e2
  simp only [Nat.zero_mul, Nat.zero_add] at d0 d1 d2
  have HB1 := Lib.hid hB1
  have HR := Lib.hid (rfl : subM s x = subM s x)
  clear hw1 hB1 hs hx hE1 h
  generalize hrr : subM s x = r at HEnd HR ⊢
  clear HR hrr
  obtain ⟨lf, la, ln⟩ := x
  unfold ltV
  simp only at hxx d0 d1 d2 HW1 HS1 HS2
  have hwr0 : IntKind.i64.wrap (la + ln) = la + ln := by rw [IntKind.wrap_i64]; omega
  go_enter Try.func131, Try.ntmps131
  go_upto_region 2 with fail
  rw [HW1.out]
  clear HW1
  go_wp2_with fail
  clear d0 d1 d2
  go_loopw [5, 6] (fun t5 ti wr => ∃ (k n1 c1 : Nat) (A1 : Option Addr), k ≤ n ∧ ti = .int .i64 k ∧ t5 = .slice A1 n1 c1 ∧ OwnL wr w1.heap.size A1 n1 c1 (subM (s.take k) (lf, la, ln)) ∧ E w1 wr) (fun _ ti _ => n - (intOf ti).toNat)
  case atStart => exact ⟨0, 0, 0, none, Nat.zero_le _, rfl, rfl, OwnL.nil _ _, E.refl _⟩
  case round =>
    obtain ⟨k, n1, c1, A1, hk, rfl, rfl, hO1, hE⟩ := hrel
    by_cases hlt : k < n
    · obtain ⟨_, _, _, e1, hbb2, e2, _, d0, d1, d2⟩ := (HB1.out.e hE).get (i := 0) (by omega)
      injection e1 with e1; injection e1 with e1 e1'; subst e1 e1'
      simp at e2; subst e2
      simp only [Nat.zero_mul, Nat.zero_add] at d0 d1 d2
      obtain ⟨bb, o, y, rfl, hb, hy, hwy, g0, g1, g2⟩ := (hA1.e hE).get hlt
      have hkI : (k : Int) < (n : Int) := by omega
      have hyy := possB_iff.1 (HPoss.out y (List.mem_of_getElem? hy))
      have hn1 : n1 ≤ 1000000 := by
        have h1 := hO1.1
        have h2 := HTwo.out k
        have h3 : (s.take k).length ≤ k := List.length_take_le _ _
        omega
      have HY := Lib.hid (HStep.out k y hy)
      have hAll := HS1.out y
      have hLR := HS2.out y
      have hwr1 : IntKind.i64.wrap (y.2.1 + y.2.2) = y.2.1 + y.2.2 := by rw [IntKind.wrap_i64]; omega
      have HCell := Lib.hid (fun W (hW : E wr W) => And.intro (And.intro ((hW.cell (p := ⟨bb, _, none⟩) hb).trans g0) (And.intro ((hW.cell (p := ⟨bb, _, none⟩) hb).trans g1) ((hW.cell (p := ⟨bb, _, none⟩) hb).trans g2))) (And.intro ((hW.cell (p := ⟨w.heap.size, 0, none⟩) hbb2).trans d0) (And.intro ((hW.cell (p := ⟨w.heap.size, 1, none⟩) hbb2).trans d1) ((hW.cell (p := ⟨w.heap.size, 2, none⟩) hbb2).trans d2))))
      have HO := Lib.hid hO1
      have HEr := Lib.hid hE
      have hk0 : (0 : Int) ≤ (k : Int) := by omega
      obtain ⟨yf, ya, yn⟩ := y
      simp only at g0 g1 g2 hyy hwr1 hAll hLR HCell
      clear hO1 hE
      by_cases q1 : yf = lf
      · have q1s := q1.symm
        subst q1s
        clear q1
        by_cases q2 : la + ln ≤ ya
        · have s2 : decide (la + ln ≤ ya) = true := by simpa using q2
          have HF := Lib.hid (show subM (s.take (k + 1)) (lf, la, ln) = subM (s.take k) (lf, la, ln) ++ [(lf, ya, yn)] by rw [HY.out, hAll (.inr (.inl q2))])
          clear q2 hAll hLR HY
          go_upto_region 6 with fail
          (refine wp_region_quiet_lit (by kernel_rfl) (by kernel_rfl) ?_; (repeat (first | ((with_reducible refine wpQuiet_step (fun K hK => ?_)); go_simp; (with_reducible refine hK _ ?_); clear hK K) | ((with_reducible refine wpQuiet_off (by kernel_rfl) (fun K hK => ?_)); go_simp; (with_reducible refine hK _ ?_); clear hK K))); (with_reducible refine wpQuiet_nil ?_); intro _ hw'; obtain ⟨nq, hw''⟩ := hw'; subst hw'')
          obtain ⟨wa, hwa⟩ : ∃ wa, wr.drewN nq = wa := ⟨_, rfl⟩
          have hEa : E wr wa := by rw [← hwa]; exact (E.refl wr).drewN nq
          rw [hwa]
          clear hwa g0 g1 g2 d0 d1 d2
          obtain ⟨⟨g0, g1, g2⟩, d0, d1, d2⟩ := HCell.out wa hEa
          have hbb3 := Nat.lt_of_lt_of_le hbb2 hEa.le
          have hb3 := Nat.lt_of_lt_of_le hb hEa.le
          go_upto_region 7 with fail
          (refine wp_region_quiet_lit (by kernel_rfl) (by kernel_rfl) ?_; (repeat (first | ((with_reducible refine wpQuiet_step (fun K hK => ?_)); go_simp; (with_reducible refine hK _ ?_); clear hK K) | ((with_reducible refine wpQuiet_off (by kernel_rfl) (fun K hK => ?_)); go_simp; (with_reducible refine hK _ ?_); clear hK K))); (with_reducible refine wpQuiet_nil ?_); intro _ hw'; obtain ⟨nq, hw''⟩ := hw'; subst hw'')
          obtain ⟨wb, hwb⟩ : ∃ wb, wa.drewN nq = wb := ⟨_, rfl⟩
          have hEb : E wr wb := by rw [← hwb]; exact hEa.drewN nq
          rw [hwb]
          clear hwb g0 g1 g2 d0 d1 d2 hEa hbb3 hb3
          obtain ⟨⟨g0, g1, g2⟩, d0, d1, d2⟩ := HCell.out wb hEb
          have hbb3 := Nat.lt_of_lt_of_le hbb2 hEb.le
          have hb3 := Nat.lt_of_lt_of_le hb hEb.le
          have HEb := Lib.hid (HEr.out.trans hEb)
          have hOb := HO.out.e hEb
          have hlb := HEb.out.le
          have hO2 := hOb.e ((E.refl wb).alloc (.cells #[.int .i64 lf, .int .i64 ya, .int .i64 yn] 32))
          have hL2 := lot_new (w := wb) hwy
          have hb2 : w1.heap.size ≤ (wb.alloc (.cells #[.int .i64 lf, .int .i64 ya, .int .i64 yn] 32)).heap.size := by rw [World.size_alloc]; omega
          have hn2 : n1 + 1 ≤ 1099511627776 := by omega
          go_wp2_with (at_builtin; refine wpList_appL _ rfl _ _ rfl w1.heap.size A1 n1 c1 _ rfl hO2 _ 1 1 [(lf, ya, yn)] rfl hL2 hn2 hb2 ?_; intro A3 c3 w3 hO3 hG3 hB3 hor3)
          have hE3 := (HEb.out.alloc (.cells #[.int .i64 lf, .int .i64 ya, .int .i64 yn] 32)).up hB3
          go_roundw
          case rel => exact ⟨k + 1, n1 + 1, c3, A3, by omega, by go_num, rfl, by rw [HF.out]; exact hO3, hE3⟩
          case measure => simp [intOf]; omega
        · have s2 : decide (la + ln ≤ ya) = false := by simpa using q2
          by_cases q3 : ya + yn ≤ la
          · have s3 : decide (ya + yn ≤ la) = true := by simpa using q3
            have HF := Lib.hid (show subM (s.take (k + 1)) (lf, la, ln) = subM (s.take k) (lf, la, ln) ++ [(lf, ya, yn)] by rw [HY.out, hAll (.inr (.inr q3))])
            clear q2 q3 hAll hLR HY
            go_upto_region 6 with fail
            (refine wp_region_quiet_lit (by kernel_rfl) (by kernel_rfl) ?_; (repeat (first | ((with_reducible refine wpQuiet_step (fun K hK => ?_)); go_simp; (with_reducible refine hK _ ?_); clear hK K) | ((with_reducible refine wpQuiet_off (by kernel_rfl) (fun K hK => ?_)); go_simp; (with_reducible refine hK _ ?_); clear hK K))); (with_reducible refine wpQuiet_nil ?_); intro _ hw'; obtain ⟨nq, hw''⟩ := hw'; subst hw'')
            obtain ⟨wa, hwa⟩ : ∃ wa, wr.drewN nq = wa := ⟨_, rfl⟩
            have hEa : E wr wa := by rw [← hwa]; exact (E.refl wr).drewN nq
            rw [hwa]
            clear hwa g0 g1 g2 d0 d1 d2
            obtain ⟨⟨g0, g1, g2⟩, d0, d1, d2⟩ := HCell.out wa hEa
            have hbb3 := Nat.lt_of_lt_of_le hbb2 hEa.le
            have hb3 := Nat.lt_of_lt_of_le hb hEa.le
            go_upto_region 7 with fail
            (refine wp_region_quiet_lit (by kernel_rfl) (by kernel_rfl) ?_; (repeat (first | ((with_reducible refine wpQuiet_step (fun K hK => ?_)); go_simp; (with_reducible refine hK _ ?_); clear hK K) | ((with_reducible refine wpQuiet_off (by kernel_rfl) (fun K hK => ?_)); go_simp; (with_reducible refine hK _ ?_); clear hK K))); (with_reducible refine wpQuiet_nil ?_); intro _ hw'; obtain ⟨nq, hw''⟩ := hw'; subst hw'')
            obtain ⟨wb, hwb⟩ : ∃ wb, wa.drewN nq = wb := ⟨_, rfl⟩
            have hEb : E wr wb := by rw [← hwb]; exact hEa.drewN nq
            rw [hwb]
            clear hwb g0 g1 g2 d0 d1 d2 hEa hbb3 hb3
            obtain ⟨⟨g0, g1, g2⟩, d0, d1, d2⟩ := HCell.out wb hEb
            have hbb3 := Nat.lt_of_lt_of_le hbb2 hEb.le
            have hb3 := Nat.lt_of_lt_of_le hb hEb.le
            have HEb := Lib.hid (HEr.out.trans hEb)
            have hOb := HO.out.e hEb
            have hlb := HEb.out.le
            have hO2 := hOb.e ((E.refl wb).alloc (.cells #[.int .i64 lf, .int .i64 ya, .int .i64 yn] 32))
            have hL2 := lot_new (w := wb) hwy
            have hb2 : w1.heap.size ≤ (wb.alloc (.cells #[.int .i64 lf, .int .i64 ya, .int .i64 yn] 32)).heap.size := by rw [World.size_alloc]; omega
            have hn2 : n1 + 1 ≤ 1099511627776 := by omega
            go_wp2_with (at_builtin; refine wpList_appL _ rfl _ _ rfl w1.heap.size A1 n1 c1 _ rfl hO2 _ 1 1 [(lf, ya, yn)] rfl hL2 hn2 hb2 ?_; intro A3 c3 w3 hO3 hG3 hB3 hor3)
            have hE3 := (HEb.out.alloc (.cells #[.int .i64 lf, .int .i64 ya, .int .i64 yn] 32)).up hB3
            go_roundw
            case rel => exact ⟨k + 1, n1 + 1, c3, A3, by omega, by go_num, rfl, by rw [HF.out]; exact hO3, hE3⟩
            case measure => simp [intOf]; omega
          · have s3 : decide (ya + yn ≤ la) = false := by simpa using q3
            have hLR := hLR (by omega)
            have hwrl : IntKind.i64.wrap (la - ya) = la - ya := by rw [IntKind.wrap_i64]; omega
            have hwrr : IntKind.i64.wrap (ya + yn - la) = ya + yn - la := by rw [IntKind.wrap_i64]; omega
            have hwrr2 : IntKind.i64.wrap (ya + yn - la - ln) = ya + yn - la - ln := by rw [IntKind.wrap_i64]; omega
            by_cases q4 : ya < la
            · have s4 : decide (ya < la) = true := by simpa using q4
              by_cases q5 : la + ln < ya + yn
              · have s5 : decide (la + ln < ya + yn) = true := by simpa using q5
                have HF := Lib.hid (show subM (s.take (k + 1)) (lf, la, ln) = subM (s.take k) (lf, la, ln) ++ [(lf, ya, la - ya)] ++ [(lf, la + ln, ya + yn - la - ln)] by rw [HY.out, hLR, if_pos q4, if_pos q5, List.append_assoc])
                clear q2 q3 q4 q5 hAll hLR HY
                go_upto_region 6 with fail
                (refine wp_region_quiet_lit (by kernel_rfl) (by kernel_rfl) ?_; (repeat (first | ((with_reducible refine wpQuiet_step (fun K hK => ?_)); go_simp; (with_reducible refine hK _ ?_); clear hK K) | ((with_reducible refine wpQuiet_off (by kernel_rfl) (fun K hK => ?_)); go_simp; (with_reducible refine hK _ ?_); clear hK K))); (with_reducible refine wpQuiet_nil ?_); intro _ hw'; obtain ⟨nq, hw''⟩ := hw'; subst hw'')
                obtain ⟨wa, hwa⟩ : ∃ wa, wr.drewN nq = wa := ⟨_, rfl⟩
                have hEa : E wr wa := by rw [← hwa]; exact (E.refl wr).drewN nq
                rw [hwa]
                clear hwa g0 g1 g2 d0 d1 d2
                obtain ⟨⟨g0, g1, g2⟩, d0, d1, d2⟩ := HCell.out wa hEa
                have hbb3 := Nat.lt_of_lt_of_le hbb2 hEa.le
                have hb3 := Nat.lt_of_lt_of_le hb hEa.le
                go_upto_region 7 with fail
                (refine wp_region_quiet_lit (by kernel_rfl) (by kernel_rfl) ?_; (repeat (first | ((with_reducible refine wpQuiet_step (fun K hK => ?_)); go_simp; (with_reducible refine hK _ ?_); clear hK K) | ((with_reducible refine wpQuiet_off (by kernel_rfl) (fun K hK => ?_)); go_simp; (with_reducible refine hK _ ?_); clear hK K))); (with_reducible refine wpQuiet_nil ?_); intro _ hw'; obtain ⟨nq, hw''⟩ := hw'; subst hw'')
                obtain ⟨wb, hwb⟩ : ∃ wb, wa.drewN nq = wb := ⟨_, rfl⟩
                have hEb : E wr wb := by rw [← hwb]; exact hEa.drewN nq
                rw [hwb]
                clear hwb g0 g1 g2 d0 d1 d2 hEa hbb3 hb3
                obtain ⟨⟨g0, g1, g2⟩, d0, d1, d2⟩ := HCell.out wb hEb
                have hbb3 := Nat.lt_of_lt_of_le hbb2 hEb.le
                have hb3 := Nat.lt_of_lt_of_le hb hEb.le
                have HEb := Lib.hid (HEr.out.trans hEb)
                have hOb := HO.out.e hEb
                have hlb := HEb.out.le
                have hO2 := hOb.e ((E.refl wb).alloc (.cells #[.int .i64 lf, .int .i64 ya, .int .i64 (la - ya)] 32))
                have hL2 := lot_new (w := wb) (x := (lf, ya, (la - ya))) ⟨hxw.1, wf_of_i64 (by simp only; omega) (by simp only; omega), wf_of_i64 (by simp only; omega) (by simp only; omega)⟩
                have hb2 : w1.heap.size ≤ (wb.alloc (.cells #[.int .i64 lf, .int .i64 ya, .int .i64 (la - ya)] 32)).heap.size := by rw [World.size_alloc]; omega
                have hn2 : n1 + 1 ≤ 1099511627776 := by omega
                go_upto_region 11 with (at_builtin; refine wpList_appL _ rfl _ _ rfl w1.heap.size A1 (n1) c1 _ rfl hO2 _ 1 1 [(lf, ya, (la - ya))] rfl hL2 hn2 hb2 ?_; intro A3 c3 w3 hO3 hG3 hB3 hor3)
                have hE3 := (HEb.out.alloc (.cells #[.int .i64 lf, .int .i64 ya, .int .i64 (la - ya)] 32)).up hB3
                obtain ⟨g3, rfl⟩ : ∃ g3, A3 = some ⟨g3, 0, none⟩ := by
                  rcases hO3.form with ⟨_, hz, _⟩ | ⟨g, hg, _⟩
                  · omega
                  · exact ⟨g, hg⟩
                have hlb3 := hE3.le
                have HE3 := Lib.hid hE3
                clear g0 g1 g2 d0 d1 d2 hbb3 hb3 hO2 hL2 hb2 hn2 hG3 hB3 hor3 hOb
                obtain ⟨_, _, _, e1, hbb4, e2, _, d0, d1, d2⟩ := (HB1.out.e hE3).get (i := 0) (by omega)
                injection e1 with e1; injection e1 with e1 e1'; subst e1 e1'
                simp at e2; subst e2
                simp only [Nat.zero_mul, Nat.zero_add] at d0 d1 d2
                have hO2 := hO3.e ((E.refl w3).alloc (.cells #[.int .i64 lf, .int .i64 (la + ln), .int .i64 (ya + yn - la - ln)] 32))
                have hL2 := lot_new (w := w3) (x := (lf, (la + ln), (ya + yn - la - ln))) ⟨hxw.1, wf_of_i64 (by simp only; omega) (by simp only; omega), wf_of_i64 (by simp only; omega) (by simp only; omega)⟩
                have hb2 : w1.heap.size ≤ (w3.alloc (.cells #[.int .i64 lf, .int .i64 (la + ln), .int .i64 (ya + yn - la - ln)] 32)).heap.size := by rw [World.size_alloc]; omega
                have hn2 : (n1 + 1) + 1 ≤ 1099511627776 := by omega
                go_wp2_with (at_builtin; refine wpList_appL _ rfl _ _ rfl w1.heap.size (some ⟨g3, 0, none⟩) ((n1 + 1)) c3 _ rfl hO2 _ 1 1 [(lf, (la + ln), (ya + yn - la - ln))] rfl hL2 hn2 hb2 ?_; intro A4 c4 w4 hO4 hG4 hB4 hor4)
                have hE4 := (HE3.out.alloc (.cells #[.int .i64 lf, .int .i64 (la + ln), .int .i64 (ya + yn - la - ln)] 32)).up hB4
                go_roundw
                case rel => exact ⟨k + 1, n1 + 1 + 1, c4, A4, by omega, by go_num, rfl, by rw [HF.out]; exact hO4, hE4⟩
                case measure => simp [intOf]; omega
              · have s5 : decide (la + ln < ya + yn) = false := by simpa using q5
                have HF := Lib.hid (show subM (s.take (k + 1)) (lf, la, ln) = subM (s.take k) (lf, la, ln) ++ [(lf, ya, la - ya)] by rw [HY.out, hLR, if_pos q4, if_neg q5, List.append_nil])
                clear q2 q3 q4 q5 hAll hLR HY
                go_upto_region 6 with fail
                (refine wp_region_quiet_lit (by kernel_rfl) (by kernel_rfl) ?_; (repeat (first | ((with_reducible refine wpQuiet_step (fun K hK => ?_)); go_simp; (with_reducible refine hK _ ?_); clear hK K) | ((with_reducible refine wpQuiet_off (by kernel_rfl) (fun K hK => ?_)); go_simp; (with_reducible refine hK _ ?_); clear hK K))); (with_reducible refine wpQuiet_nil ?_); intro _ hw'; obtain ⟨nq, hw''⟩ := hw'; subst hw'')
                obtain ⟨wa, hwa⟩ : ∃ wa, wr.drewN nq = wa := ⟨_, rfl⟩
                have hEa : E wr wa := by rw [← hwa]; exact (E.refl wr).drewN nq
                rw [hwa]
                clear hwa g0 g1 g2 d0 d1 d2
                obtain ⟨⟨g0, g1, g2⟩, d0, d1, d2⟩ := HCell.out wa hEa
                have hbb3 := Nat.lt_of_lt_of_le hbb2 hEa.le
                have hb3 := Nat.lt_of_lt_of_le hb hEa.le
                go_upto_region 7 with fail
                (refine wp_region_quiet_lit (by kernel_rfl) (by kernel_rfl) ?_; (repeat (first | ((with_reducible refine wpQuiet_step (fun K hK => ?_)); go_simp; (with_reducible refine hK _ ?_); clear hK K) | ((with_reducible refine wpQuiet_off (by kernel_rfl) (fun K hK => ?_)); go_simp; (with_reducible refine hK _ ?_); clear hK K))); (with_reducible refine wpQuiet_nil ?_); intro _ hw'; obtain ⟨nq, hw''⟩ := hw'; subst hw'')
                obtain ⟨wb, hwb⟩ : ∃ wb, wa.drewN nq = wb := ⟨_, rfl⟩
                have hEb : E wr wb := by rw [← hwb]; exact hEa.drewN nq
                rw [hwb]
                clear hwb g0 g1 g2 d0 d1 d2 hEa hbb3 hb3
                obtain ⟨⟨g0, g1, g2⟩, d0, d1, d2⟩ := HCell.out wb hEb
                have hbb3 := Nat.lt_of_lt_of_le hbb2 hEb.le
                have hb3 := Nat.lt_of_lt_of_le hb hEb.le
                have HEb := Lib.hid (HEr.out.trans hEb)
                have hOb := HO.out.e hEb
                have hlb := HEb.out.le
                have hO2 := hOb.e ((E.refl wb).alloc (.cells #[.int .i64 lf, .int .i64 ya, .int .i64 (la - ya)] 32))
                have hL2 := lot_new (w := wb) (x := (lf, ya, (la - ya))) ⟨hxw.1, wf_of_i64 (by simp only; omega) (by simp only; omega), wf_of_i64 (by simp only; omega) (by simp only; omega)⟩
                have hb2 : w1.heap.size ≤ (wb.alloc (.cells #[.int .i64 lf, .int .i64 ya, .int .i64 (la - ya)] 32)).heap.size := by rw [World.size_alloc]; omega
                have hn2 : n1 + 1 ≤ 1099511627776 := by omega
                go_upto_region 11 with (at_builtin; refine wpList_appL _ rfl _ _ rfl w1.heap.size A1 (n1) c1 _ rfl hO2 _ 1 1 [(lf, ya, (la - ya))] rfl hL2 hn2 hb2 ?_; intro A3 c3 w3 hO3 hG3 hB3 hor3)
                have hE3 := (HEb.out.alloc (.cells #[.int .i64 lf, .int .i64 ya, .int .i64 (la - ya)] 32)).up hB3
                clear g0 g1 g2 d0 d1 d2 hbb3 hb3 hO2 hL2 hb2 hn2 hG3 hB3 hor3 hOb
                obtain ⟨_, _, _, e1, hbb4, e2, _, d0, d1, d2⟩ := (HB1.out.e hE3).get (i := 0) (by omega)
                injection e1 with e1; injection e1 with e1 e1'; subst e1 e1'
                simp at e2; subst e2
                simp only [Nat.zero_mul, Nat.zero_add] at d0 d1 d2
                go_wp2_with fail
                go_roundw
                case rel => exact ⟨k + 1, n1 + 1, c3, A3, by omega, by go_num, rfl, by rw [HF.out]; exact hO3, hE3⟩
                case measure => simp [intOf]; omega
            · have s4 : decide (ya < la) = false := by simpa using q4
              by_cases q5 : la + ln < ya + yn
              · have s5 : decide (la + ln < ya + yn) = true := by simpa using q5
                have HF := Lib.hid (show subM (s.take (k + 1)) (lf, la, ln) = subM (s.take k) (lf, la, ln) ++ [(lf, la + ln, ya + yn - la - ln)] by rw [HY.out, hLR, if_neg q4, if_pos q5, List.nil_append])
                clear q2 q3 q4 q5 hAll hLR HY
                go_upto_region 6 with fail
                (refine wp_region_quiet_lit (by kernel_rfl) (by kernel_rfl) ?_; (repeat (first | ((with_reducible refine wpQuiet_step (fun K hK => ?_)); go_simp; (with_reducible refine hK _ ?_); clear hK K) | ((with_reducible refine wpQuiet_off (by kernel_rfl) (fun K hK => ?_)); go_simp; (with_reducible refine hK _ ?_); clear hK K))); (with_reducible refine wpQuiet_nil ?_); intro _ hw'; obtain ⟨nq, hw''⟩ := hw'; subst hw'')
                obtain ⟨wa, hwa⟩ : ∃ wa, wr.drewN nq = wa := ⟨_, rfl⟩
                have hEa : E wr wa := by rw [← hwa]; exact (E.refl wr).drewN nq
                rw [hwa]
                clear hwa g0 g1 g2 d0 d1 d2
                obtain ⟨⟨g0, g1, g2⟩, d0, d1, d2⟩ := HCell.out wa hEa
                have hbb3 := Nat.lt_of_lt_of_le hbb2 hEa.le
                have hb3 := Nat.lt_of_lt_of_le hb hEa.le
                go_upto_region 7 with fail
                (refine wp_region_quiet_lit (by kernel_rfl) (by kernel_rfl) ?_; (repeat (first | ((with_reducible refine wpQuiet_step (fun K hK => ?_)); go_simp; (with_reducible refine hK _ ?_); clear hK K) | ((with_reducible refine wpQuiet_off (by kernel_rfl) (fun K hK => ?_)); go_simp; (with_reducible refine hK _ ?_); clear hK K))); (with_reducible refine wpQuiet_nil ?_); intro _ hw'; obtain ⟨nq, hw''⟩ := hw'; subst hw'')
                obtain ⟨wb, hwb⟩ : ∃ wb, wa.drewN nq = wb := ⟨_, rfl⟩
                have hEb : E wr wb := by rw [← hwb]; exact hEa.drewN nq
                rw [hwb]
                clear hwb g0 g1 g2 d0 d1 d2 hEa hbb3 hb3
                obtain ⟨⟨g0, g1, g2⟩, d0, d1, d2⟩ := HCell.out wb hEb
                have hbb3 := Nat.lt_of_lt_of_le hbb2 hEb.le
                have hb3 := Nat.lt_of_lt_of_le hb hEb.le
                have HEb := Lib.hid (HEr.out.trans hEb)
                have hOb := HO.out.e hEb
                have hlb := HEb.out.le
                have hO2 := hOb.e ((E.refl wb).alloc (.cells #[.int .i64 lf, .int .i64 (la + ln), .int .i64 (ya + yn - la - ln)] 32))
                have hL2 := lot_new (w := wb) (x := (lf, (la + ln), (ya + yn - la - ln))) ⟨hxw.1, wf_of_i64 (by simp only; omega) (by simp only; omega), wf_of_i64 (by simp only; omega) (by simp only; omega)⟩
                have hb2 : w1.heap.size ≤ (wb.alloc (.cells #[.int .i64 lf, .int .i64 (la + ln), .int .i64 (ya + yn - la - ln)] 32)).heap.size := by rw [World.size_alloc]; omega
                have hn2 : n1 + 1 ≤ 1099511627776 := by omega
                go_wp2_with (at_builtin; refine wpList_appL _ rfl _ _ rfl w1.heap.size A1 (n1) c1 _ rfl hO2 _ 1 1 [(lf, (la + ln), (ya + yn - la - ln))] rfl hL2 hn2 hb2 ?_; intro A3 c3 w3 hO3 hG3 hB3 hor3)
                have hE3 := (HEb.out.alloc (.cells #[.int .i64 lf, .int .i64 (la + ln), .int .i64 (ya + yn - la - ln)] 32)).up hB3
                go_roundw
                case rel => exact ⟨k + 1, n1 + 1, c3, A3, by omega, by go_num, rfl, by rw [HF.out]; exact hO3, hE3⟩
                case measure => simp [intOf]; omega
              · have s5 : decide (la + ln < ya + yn) = false := by simpa using q5
                have HF := Lib.hid (show subM (s.take (k + 1)) (lf, la, ln) = subM (s.take k) (lf, la, ln) by rw [HY.out, hLR, if_neg q4, if_neg q5, List.append_nil, List.append_nil])
                clear q2 q3 q4 q5 hAll hLR HY
                go_upto_region 6 with fail
                (refine wp_region_quiet_lit (by kernel_rfl) (by kernel_rfl) ?_; (repeat (first | ((with_reducible refine wpQuiet_step (fun K hK => ?_)); go_simp; (with_reducible refine hK _ ?_); clear hK K) | ((with_reducible refine wpQuiet_off (by kernel_rfl) (fun K hK => ?_)); go_simp; (with_reducible refine hK _ ?_); clear hK K))); (with_reducible refine wpQuiet_nil ?_); intro _ hw'; obtain ⟨nq, hw''⟩ := hw'; subst hw'')
                obtain ⟨wa, hwa⟩ : ∃ wa, wr.drewN nq = wa := ⟨_, rfl⟩
                have hEa : E wr wa := by rw [← hwa]; exact (E.refl wr).drewN nq
                rw [hwa]
                clear hwa g0 g1 g2 d0 d1 d2
                obtain ⟨⟨g0, g1, g2⟩, d0, d1, d2⟩ := HCell.out wa hEa
                have hbb3 := Nat.lt_of_lt_of_le hbb2 hEa.le
                have hb3 := Nat.lt_of_lt_of_le hb hEa.le
                go_upto_region 7 with fail
                (refine wp_region_quiet_lit (by kernel_rfl) (by kernel_rfl) ?_; (repeat (first | ((with_reducible refine wpQuiet_step (fun K hK => ?_)); go_simp; (with_reducible refine hK _ ?_); clear hK K) | ((with_reducible refine wpQuiet_off (by kernel_rfl) (fun K hK => ?_)); go_simp; (with_reducible refine hK _ ?_); clear hK K))); (with_reducible refine wpQuiet_nil ?_); intro _ hw'; obtain ⟨nq, hw''⟩ := hw'; subst hw'')
                obtain ⟨wb, hwb⟩ : ∃ wb, wa.drewN nq = wb := ⟨_, rfl⟩
                have hEb : E wr wb := by rw [← hwb]; exact hEa.drewN nq
                rw [hwb]
                clear hwb g0 g1 g2 d0 d1 d2 hEa hbb3 hb3
                obtain ⟨⟨g0, g1, g2⟩, d0, d1, d2⟩ := HCell.out wb hEb
                have hbb3 := Nat.lt_of_lt_of_le hbb2 hEb.le
                have hb3 := Nat.lt_of_lt_of_le hb hEb.le
                have HEb := Lib.hid (HEr.out.trans hEb)
                have hOb := HO.out.e hEb
                have hlb := HEb.out.le
                go_wp2_with fail
                go_roundw
                case rel => exact ⟨k + 1, n1, c1, A1, by omega, by go_num, rfl, by rw [HF.out]; exact hOb, HEb.out⟩
                case measure => simp [intOf]; omega
      · have s1 : (yf == lf) = false := by simpa using q1
        have HF := Lib.hid (show subM (s.take (k + 1)) (lf, la, ln) = subM (s.take k) (lf, la, ln) ++ [(yf, ya, yn)] by rw [HY.out, hAll (.inl q1)])
        clear hAll hLR HY
        go_upto_region 6 with fail
        (refine wp_region_quiet_lit (by kernel_rfl) (by kernel_rfl) ?_; (repeat (first | ((with_reducible refine wpQuiet_step (fun K hK => ?_)); go_simp; (with_reducible refine hK _ ?_); clear hK K) | ((with_reducible refine wpQuiet_off (by kernel_rfl) (fun K hK => ?_)); go_simp; (with_reducible refine hK _ ?_); clear hK K))); (with_reducible refine wpQuiet_nil ?_); intro _ hw'; obtain ⟨nq, hw''⟩ := hw'; subst hw'')
        obtain ⟨wa, hwa⟩ : ∃ wa, wr.drewN nq = wa := ⟨_, rfl⟩
        have hEa : E wr wa := by rw [← hwa]; exact (E.refl wr).drewN nq
        rw [hwa]
        clear hwa g0 g1 g2 d0 d1 d2
        obtain ⟨⟨g0, g1, g2⟩, d0, d1, d2⟩ := HCell.out wa hEa
        have hbb3 := Nat.lt_of_lt_of_le hbb2 hEa.le
        have hb3 := Nat.lt_of_lt_of_le hb hEa.le
        go_upto_region 7 with fail
        (refine wp_region_quiet_lit (by kernel_rfl) (by kernel_rfl) ?_; (repeat (first | ((with_reducible refine wpQuiet_step (fun K hK => ?_)); go_simp; (with_reducible refine hK _ ?_); clear hK K) | ((with_reducible refine wpQuiet_off (by kernel_rfl) (fun K hK => ?_)); go_simp; (with_reducible refine hK _ ?_); clear hK K))); (with_reducible refine wpQuiet_nil ?_); intro _ hw'; obtain ⟨nq, hw''⟩ := hw'; subst hw'')
        obtain ⟨wb, hwb⟩ : ∃ wb, wa.drewN nq = wb := ⟨_, rfl⟩
        have hEb : E wr wb := by rw [← hwb]; exact hEa.drewN nq
        rw [hwb]
        clear hwb g0 g1 g2 d0 d1 d2 hEa hbb3 hb3
        obtain ⟨⟨g0, g1, g2⟩, d0, d1, d2⟩ := HCell.out wb hEb
        have hbb3 := Nat.lt_of_lt_of_le hbb2 hEb.le
        have hb3 := Nat.lt_of_lt_of_le hb hEb.le
        have HEb := Lib.hid (HEr.out.trans hEb)
        have hOb := HO.out.e hEb
        have hlb := HEb.out.le
        have hO2 := hOb.e ((E.refl wb).alloc (.cells #[.int .i64 yf, .int .i64 ya, .int .i64 yn] 32))
        have hL2 := lot_new (w := wb) hwy
        have hb2 : w1.heap.size ≤ (wb.alloc (.cells #[.int .i64 yf, .int .i64 ya, .int .i64 yn] 32)).heap.size := by rw [World.size_alloc]; omega
        have hn2 : n1 + 1 ≤ 1099511627776 := by omega
        go_wp2_with (at_builtin; refine wpList_appL _ rfl _ _ rfl w1.heap.size A1 n1 c1 _ rfl hO2 _ 1 1 [(yf, ya, yn)] rfl hL2 hn2 hb2 ?_; intro A3 c3 w3 hO3 hG3 hB3 hor3)
        have hE3 := (HEb.out.alloc (.cells #[.int .i64 yf, .int .i64 ya, .int .i64 yn] 32)).up hB3
        go_roundw
        case rel => exact ⟨k + 1, n1 + 1, c3, A3, by omega, by go_num, rfl, by rw [HF.out]; exact hO3, hE3⟩
        case measure => simp [intOf]; omega
    · have HF := Lib.hid (show r = subM (s.take k) (lf, la, ln) by rw [← HEnd.out, show n = k by omega])
      go_wp2_with fail
      go_ret
      exact RetL.mk_ HF.out (hO1.rebase hle1) (HE01.out.trans hE)
end Go.Proofs.Ytmeplpiamkaniaa
/- The model's Set, Union, Without, Minus, Meet, Within. -/
namespace Go.Proofs.Ytmeplpiamkaniaa
set_option linter.unusedVariables false
set_option linter.unusedSimpArgs false
open Go.RowKit

theorem setS_take {l : List Lt} {k : Nat} {x : Lt} (hl : ∀ y ∈ l, possB y = true) (h : l[k]? = some x) : insM (setS (l.take k)) x = setS (l.take (k + 1)) := by
  have h1 : ∀ y ∈ l.take k, possB y = true := fun y hy => hl y (List.mem_of_mem_take hy)
  have hx := hl x (List.mem_of_getElem? h)
  have e : l.take (k + 1) = l.take k ++ [x] := by rw [List.take_add_one, h]; rfl
  rw [e]
  exact insM_set (setP _ h1).1 (possB_iff.1 hx).2.2.2.1 fun u => by rw [mem_setS, U_app, U_one, List.mem_append]
theorem setS_take2 {a l : List Lt} {k : Nat} {x : Lt} (ha : ∀ y ∈ a, possB y = true) (hl : ∀ y ∈ l, possB y = true) (h : l[k]? = some x) : insM (setS (a ++ l.take k)) x = setS (a ++ l.take (k + 1)) := by
  have h1 : ∀ y ∈ a ++ l.take k, possB y = true := fun y hy => by
    rcases List.mem_append.1 hy with hy | hy
    · exact ha y hy
    · exact hl y (List.mem_of_mem_take hy)
  have hx := hl x (List.mem_of_getElem? h)
  have e : a ++ l.take (k + 1) = a ++ l.take k ++ [x] := by rw [List.take_add_one, h, List.append_assoc]; rfl
  rw [e]
  exact insM_set (setP _ h1).1 (possB_iff.1 hx).2.2.2.1 fun u => by rw [mem_setS, U_app _ [x], U_one, List.mem_append]
set_option maxHeartbeats 4000000 in
set_option maxRecDepth 100000 in
theorem refSet_c (A : Option Addr) (n c : Nat) (l : List Lt) (w : World) (h : LotsAt w A n c l) : Calls Try.prog 54 #[.slice A n c] w (RetL w (lset l)) := by
  have HV := Lib.hid (refValid_c A n c l w h)
  have hm63 := h.n63
  have hlen := h.len
  cases hv : validB l
  · rw [hv] at HV
    have HF := Lib.hid (show lset l = [] by rw [lset, hv]; rfl)
    have hn0 : 0 < n := by
      rcases Nat.eq_zero_or_pos n with h0 | h0
      · subst h0
        obtain rfl := List.eq_nil_of_length_eq_zero hlen
        simp [validB] at hv
      · exact h0
    have hnI : (0 : Int) < (n : Int) := by omega
    clear hv hlen
    go_enter Try.func54, Try.ntmps54
    go_wp2_with fail
    refine HV.out.mono ?_
    rintro e w2 ⟨rfl, hE2⟩
    go_wp2_with fail
    go_loopw [3, 5] (fun t0 ti wr => ti = .int .i64 (0 : Nat) ∧ t0 = .slice none 0 0 ∧ E w wr) (fun _ _ _ => 0)
    case atStart => exact ⟨rfl, rfl, hE2⟩
    case round =>
      obtain ⟨rfl, rfl, hE⟩ := hrel
      go_wp2_with fail
      go_ret
      exact RetL.mk_ HF.out (OwnL.nil _ _) hE
  · rw [hv] at HV
    obtain ⟨v1, v2⟩ := validB_iff.1 hv
    have hn : n ≤ 4096 := by omega
    have HF := Lib.hid (show lset l = setS (l.take n) by rw [lset, hv, List.take_of_length_le (by omega)]; rfl)
    have HP := Lib.hid v2
    have HT := Lib.hid (fun k => setP (l.take k) (fun y hy => v2 y (List.mem_of_mem_take hy)))
    have HS := Lib.hid (fun k x (hx : l[k]? = some x) => setS_take v2 hx)
    clear hv v1 v2 hlen
    go_enter Try.func54, Try.ntmps54
    go_wp2_with fail
    refine HV.out.mono ?_
    rintro e w2 ⟨rfl, hE2⟩
    go_wp2_with fail
    go_loopw [3, 5] (fun t0 ti wr => ∃ (k n1 c1 : Nat) (A1 : Option Addr), k ≤ n ∧ ti = .int .i64 k ∧ t0 = .slice A1 n1 c1 ∧ OwnL wr w.heap.size A1 n1 c1 (setS (l.take k)) ∧ E w wr) (fun _ ti _ => n - (intOf ti).toNat)
    case atStart => exact ⟨0, 0, 0, none, Nat.zero_le _, rfl, rfl, OwnL.nil _ _, hE2⟩
    case round =>
      obtain ⟨k, n1, c1, A1, hk, rfl, rfl, hO, hE⟩ := hrel
      by_cases hlt : k < n
      · obtain ⟨b, o, x, rfl, hb, hx, hwx, d0, d1, d2⟩ := (h.e hE).get hlt
        have hkI : (k : Int) < (n : Int) := by omega
        have hT := HT.out k
        have hn1 : n1 ≤ 1000000 := by have := hO.1; have := hT.2.1; have : (l.take k).length ≤ k := List.length_take_le _ _; omega
        have HC := Lib.hid (fun W (hW : E wr W) => refInsert_c x A1 n1 c1 (setS (l.take k)) W (hO.reads.e hW) hT.2.2.1 (HP.out x (List.mem_of_getElem? hx)) hwx hn1)
        rw [HS.out k x hx] at HC
        obtain ⟨f, a, m⟩ := x
        simp only at d0 d1 d2
        unfold ltV at HC
        clear hx hT hO
        go_wp2_with fail
        refine (HC.out _ (E.refl _)).mono ?_
        rintro e w3 ⟨A3, n3, c3, rfl, hO3, hE3⟩
        have hle := hE.le
        go_wp2_with fail
        go_roundw
        case rel => exact ⟨k + 1, n3, c3, A3, by omega, by go_num, rfl, hO3.rebase hle, hE.trans hE3⟩
        case measure => simp [intOf]; omega
      · have hkn : k = n := by omega
        subst hkn
        go_wp2_with fail
        go_ret
        exact RetL.mk_ HF.out hO hE
set_option maxHeartbeats 4000000 in
set_option maxRecDepth 100000 in
theorem refUnion_c (A : Option Addr) (n c : Nat) (l : List Lt) (A' : Option Addr) (n' c' : Nat) (l' : List Lt) (w : World) (h : LotsAt w A n c l) (h' : LotsAt w A' n' c' l') :
    Calls Try.prog 56 #[.slice A n c, .slice A' n' c'] w (RetL w (lunion l l')) := by
  have HV := Lib.hid (refValid_c A n c l w h)
  have HV2 := Lib.hid (fun W (hE : E w W) => refValid_c A' n' c' l' W (h'.e hE))
  have hm63 := h'.n63
  cases hv : validB l
  · rw [hv] at HV
    have HF := Lib.hid (show lunion l l' = [] by rw [lunion, hv]; rfl)
    clear hv
    go_enter Try.func56, Try.ntmps56
    go_wp2_with fail
    refine HV.out.mono ?_
    rintro e w2 ⟨rfl, hE2⟩
    go_wp2_with fail
    refine (HV2.out _ hE2).mono ?_
    rintro e w3 ⟨rfl, hE3⟩
    go_wp2_with fail
    go_ret
    exact RetL.mk_ HF.out (OwnL.nil _ _) (hE2.trans hE3)
  · rw [hv] at HV
    cases hv2 : validB l'
    · rw [hv2] at HV2
      have HF := Lib.hid (show lunion l l' = [] by rw [lunion, hv, hv2]; rfl)
      clear hv hv2
      go_enter Try.func56, Try.ntmps56
      go_wp2_with fail
      refine HV.out.mono ?_
      rintro e w2 ⟨rfl, hE2⟩
      go_wp2_with fail
      refine (HV2.out _ hE2).mono ?_
      rintro e w3 ⟨rfl, hE3⟩
      go_wp2_with fail
      go_ret
      exact RetL.mk_ HF.out (OwnL.nil _ _) (hE2.trans hE3)
    · rw [hv2] at HV2
      obtain ⟨v1, v2⟩ := validB_iff.1 hv
      obtain ⟨u1, u2⟩ := validB_iff.1 hv2
      have hl1 := h.len
      have hl2 := h'.len
      have hn : n ≤ 4096 := by omega
      have hn' : n' ≤ 4096 := by omega
      have HF := Lib.hid (show lunion l l' = setS (l ++ l'.take n') by rw [lunion, hv, hv2, List.take_of_length_le (l := l') (by omega)]; rfl)
      have HP := Lib.hid u2
      have HT := Lib.hid (fun k => setP (l ++ l'.take k) (fun y hy => by
        rcases List.mem_append.1 hy with hy | hy
        · exact v2 y hy
        · exact u2 y (List.mem_of_mem_take hy)))
      have HS := Lib.hid (fun k x (hx : l'[k]? = some x) => setS_take2 v2 u2 hx)
      have HC1 := Lib.hid (fun W (hE : E w W) => refSet_c A n c l W (h.e hE))
      have hls : lset l = setS (l ++ l'.take 0) := by rw [lset, hv, List.take_zero, List.append_nil]; rfl
      rw [hls] at HC1
      have HL := Lib.hid (And.intro hl1 hl2)
      clear hv hv2 v1 v2 u1 u2 hl1 hl2 hls
      go_enter Try.func56, Try.ntmps56
      go_wp2_with fail
      refine HV.out.mono ?_
      rintro e w2 ⟨rfl, hE2⟩
      go_wp2_with fail
      refine (HV2.out _ hE2).mono ?_
      rintro e w3 ⟨rfl, hE3⟩
      have hE23 := hE2.trans hE3
      have hle3 := hE23.le
      go_wp2_with fail
      refine (HC1.out _ hE23).mono ?_
      rintro e w4 ⟨A4, n4, c4, rfl, hO4, hE4⟩
      go_wp2_with fail
      go_loopw [7, 8] (fun t0 ti wr => ∃ (k n1 c1 : Nat) (A1 : Option Addr), k ≤ n' ∧ ti = .int .i64 k ∧ t0 = .slice A1 n1 c1 ∧ OwnL wr w.heap.size A1 n1 c1 (setS (l ++ l'.take k)) ∧ E w wr) (fun _ ti _ => n' - (intOf ti).toNat)
      case atStart => exact ⟨0, n4, c4, A4, Nat.zero_le _, rfl, rfl, hO4.rebase hle3, hE23.trans hE4⟩
      case round =>
        clear hO4
        obtain ⟨k, n1, c1, A1, hk, rfl, rfl, hO, hE⟩ := hrel
        by_cases hlt : k < n'
        · obtain ⟨b, o, x, rfl, hb, hx, hwx, d0, d1, d2⟩ := (h'.e hE).get hlt
          have hkI : (k : Int) < (n' : Int) := by omega
          have hT := HT.out k
          have hn1 : n1 ≤ 1000000 := by have := hO.1; have := hT.2.1; have h0 : (l'.take k).length ≤ k := List.length_take_le _ _; rw [List.length_append] at this; have := HL.out.1; omega
          have HC := Lib.hid (fun W (hW : E wr W) => refInsert_c x A1 n1 c1 (setS (l ++ l'.take k)) W (hO.reads.e hW) hT.2.2.1 (HP.out x (List.mem_of_getElem? hx)) hwx hn1)
          rw [HS.out k x hx] at HC
          obtain ⟨f, a, m⟩ := x
          simp only at d0 d1 d2
          unfold ltV at HC
          clear hx hT hO
          go_wp2_with fail
          refine (HC.out _ (E.refl _)).mono ?_
          rintro e w5 ⟨A3, n3, c3, rfl, hO3, hE3⟩
          have hle := hE.le
          go_wp2_with fail
          go_roundw
          case rel => exact ⟨k + 1, n3, c3, A3, by omega, by go_num, rfl, hO3.rebase hle, hE.trans hE3⟩
          case measure => simp [intOf]; omega
        · have hkn : k = n' := by omega
          subst hkn
          go_wp2_with fail
          go_ret
          exact RetL.mk_ HF.out hO hE

theorem subA_take {y : Lt} {set : List Lt} {k : Nat} {x : Lt} (h : set[k]? = some x) : subM (subA y (set.take k)) x = subA y (set.take (k + 1)) := by rw [List.take_add_one, h]; exact (subA_snoc y x _).symm
theorem wouM_take {s set : List Lt} {k : Nat} {y : Lt} (h : s[k]? = some y) : putL (wouM (s.take k) set) (subA y set) = wouM (s.take (k + 1)) set := by rw [List.take_add_one, h]; exact (wouM_snoc _ set y).symm
theorem putL_take {s r : List Lt} {k : Nat} {y : Lt} (h : r[k]? = some y) : addL (putL s (r.take k)) y = putL s (r.take (k + 1)) := by rw [List.take_add_one, h]; exact (putL_snoc s _ y).symm
theorem lwithout_wou {s set : List Lt} (h1 : validB s = true) (h2 : validB set = true) : lwithout s set = wouM s set := by rw [lwithout, h1, h2, (wouM_facts s set (validB_iff.1 h1).2 (validB_iff.1 h2).2).1]; rfl
set_option maxHeartbeats 8000000 in
set_option maxRecDepth 100000 in
theorem refWithout_c (A : Option Addr) (n c : Nat) (s : List Lt) (A' : Option Addr) (n' c' : Nat) (set : List Lt) (w : World) (h : LotsAt w A n c s) (h' : LotsAt w A' n' c' set) (hnn : n * (n' + 1) ≤ 100000) :
    Calls Try.prog 113 #[.slice A n c, .slice A' n' c'] w (RetL w (lwithout s set)) := by
  have HV := Lib.hid (refValid_c A n c s w h)
  have HV2 := Lib.hid (fun W (hE : E w W) => refValid_c A' n' c' set W (h'.e hE))
  have hm63 := h.n63
  have hm63' := h'.n63
  cases hv : validB s
  · rw [hv] at HV
    have HF := Lib.hid (show lwithout s set = [] by rw [lwithout, hv]; rfl)
    clear hv
    go_enter Try.func113, Try.ntmps113
    go_wp2_with fail
    refine HV.out.mono ?_
    rintro e w2 ⟨rfl, hE2⟩
    go_wp2_with fail
    refine (HV2.out _ hE2).mono ?_
    rintro e w3 ⟨rfl, hE3⟩
    go_wp2_with fail
    go_ret
    exact RetL.mk_ HF.out (OwnL.nil _ _) (hE2.trans hE3)
  · rw [hv] at HV
    cases hv2 : validB set
    · rw [hv2] at HV2
      have HF := Lib.hid (show lwithout s set = [] by rw [lwithout, hv, hv2]; rfl)
      clear hv hv2
      go_enter Try.func113, Try.ntmps113
      go_wp2_with fail
      refine HV.out.mono ?_
      rintro e w2 ⟨rfl, hE2⟩
      go_wp2_with fail
      refine (HV2.out _ hE2).mono ?_
      rintro e w3 ⟨rfl, hE3⟩
      go_wp2_with fail
      go_ret
      exact RetL.mk_ HF.out (OwnL.nil _ _) (hE2.trans hE3)
    · rw [hv2] at HV2
      obtain ⟨v1, v2⟩ := validB_iff.1 hv
      obtain ⟨u1, u2⟩ := validB_iff.1 hv2
      have hl1 := h.len
      have hl2 := h'.len
      have hn : n ≤ 4096 := by omega
      have hn' : n' ≤ 4096 := by omega
      have HF := Lib.hid (show lwithout s set = wouM (s.take n) set by rw [lwithout_wou hv hv2, List.take_of_length_le (by omega)])
      have HP := Lib.hid (And.intro v2 u2)
      have HW := Lib.hid (fun k => wouM_facts (s.take k) set (fun y hy => v2 y (List.mem_of_mem_take hy)) u2)
      have HA := Lib.hid (fun y (hy : possB y = true) k => subA_facts hy (set.take k) (fun x hx => u2 x (List.mem_of_mem_take hx)))
      have HSa := Lib.hid (fun y k x (hx : set[k]? = some x) => subA_take (y := y) hx)
      have HSw := Lib.hid (fun k y (hy : s[k]? = some y) => wouM_take (set := set) hy)
      have HL := Lib.hid (And.intro hl1 hl2)
      have HNN := Lib.hid hnn
      have HTk := Lib.hid (show set.take n' = set from List.take_of_length_le (by omega))
      clear hv hv2 v1 v2 u1 u2 hl1 hl2 hnn
      go_enter Try.func113, Try.ntmps113
      go_wp2_with fail
      refine HV.out.mono ?_
      rintro e w2 ⟨rfl, hE2⟩
      go_wp2_with fail
      refine (HV2.out _ hE2).mono ?_
      rintro e w3 ⟨rfl, hE3⟩
      have hE23 := hE2.trans hE3
      clear hE2 hE3
      go_wp2_with fail
      go_loopw [7, 8] (fun t0 ti wr => ∃ (k n1 c1 : Nat) (A1 : Option Addr), k ≤ n ∧ ti = .int .i64 k ∧ t0 = .slice A1 n1 c1 ∧ OwnL wr w.heap.size A1 n1 c1 (wouM (s.take k) set) ∧ E w wr) (fun _ ti _ => n - (intOf ti).toNat)
      case atStart => exact ⟨0, 0, 0, none, Nat.zero_le _, rfl, rfl, OwnL.nil _ _, hE23⟩
      case round =>
        clear hE23
        obtain ⟨k, n1, c1, A1, hk, rfl, rfl, hO, hE⟩ := hrel
        by_cases hlt : k < n
        · obtain ⟨b, o, y, rfl, hb, hy, hwy, d0, d1, d2⟩ := (h.e hE).get hlt
          have hkI : (k : Int) < (n : Int) := by omega
          have hpy := HP.out.1 y (List.mem_of_getElem? hy)
          have hWk := HW.out k
          have hOl := hO.1
          have hkl : (s.take k).length ≤ k := List.length_take_le _ _
          have hnk : k * (n' + 1) + (n' + 1) ≤ 100000 := by
            have h1 : (k + 1) * (n' + 1) ≤ n * (n' + 1) := Nat.mul_le_mul_right _ (by omega)
            rw [Nat.add_mul, Nat.one_mul] at h1
            have := HNN.out
            omega
          have hn1 : n1 ≤ k * (n' + 1) := by
            have h1 := hWk.2.2
            have h2 : (s.take k).length * (set.length + 1) ≤ k * (n' + 1) := by rw [HL.out.2]; exact Nat.mul_le_mul_right _ hkl
            omega
          have HB := Lib.hid (And.intro hn1 hnk)
          have HWp := Lib.hid hWk.2.1
          have HY := Lib.hid (HSw.out k y hy)
          have HPy := Lib.hid (HA.out y hpy)
          have HSy := Lib.hid (HSa.out y)
          clear hy hpy hWk hOl hkl hnk hn1
          obtain ⟨w5, hw5⟩ : ∃ w5, w5 = wr := ⟨_, rfl⟩
          subst hw5
          have hLn := lot_new (w := w5) hwy
          have hE5 : E w5 (w5.alloc (.cells #[.int .i64 y.1, .int .i64 y.2.1, .int .i64 y.2.2] 32)) := (E.refl _).alloc _
          have hO5 := hO.e hE5
          obtain ⟨yf, ya, yn⟩ := y
          simp only at d0 d1 d2 hE5 hLn hO5
          clear hO
          go_upto_region 10 with fail
          obtain ⟨w6, hw6⟩ : ∃ w6, w5.alloc (.cells #[.int .i64 yf, .int .i64 ya, .int .i64 yn] 32) = w6 := ⟨_, rfl⟩
          rw [hw6] at hE5 hLn hO5 ⊢
          clear hw6
          have hE6 := hE.trans hE5
          go_wp2_with fail
          go_loopw [9, 10] (fun tr tk wr => ∃ (j n2 c2 : Nat) (A2 : Option Addr), j ≤ n' ∧ tk = .int .i64 j ∧ tr = .slice A2 n2 c2 ∧ LotsAt wr A2 n2 c2 (subA (yf, ya, yn) (set.take j)) ∧ E w6 wr) (fun _ tk _ => n' - (intOf tk).toNat)
          case atStart => exact ⟨0, 1, 1, _, Nat.zero_le _, rfl, rfl, hLn, E.refl _⟩
          case round =>
            obtain ⟨j, n2, c2, A2, hj, rfl, rfl, hR, hEr⟩ := hrel
            by_cases hlt2 : j < n'
            · obtain ⟨b2, o2, x, rfl, hb2, hx, hwx, g0, g1, g2⟩ := (h'.e (hE6.trans hEr)).get hlt2
              have hjI : (j : Int) < (n' : Int) := by omega
              have hP := HPy.out j
              have hn2 : n2 ≤ 100000 := by have := hR.len; have := hP.2.2; have : (set.take j).length ≤ j := List.length_take_le _ _; omega
              have HC := Lib.hid (fun W (hW : E wr W) => refSubtract_c x A2 n2 c2 (subA (yf, ya, yn) (set.take j)) W (hR.e hW) hP.2.1 (HP.out.2 x (List.mem_of_getElem? hx)) hwx hn2)
              rw [HSy.out j x hx] at HC
              obtain ⟨xf, xa, xn⟩ := x
              simp only at g0 g1 g2
              unfold ltV at HC
              clear hx hP hR
              go_wp2_with fail
              refine (HC.out _ (E.refl _)).mono ?_
              rintro e w7 ⟨A3, n3, c3, rfl, hO3, hE3⟩
              go_wp2_with fail
              go_roundw
              case rel => exact ⟨j + 1, n3, c3, A3, by omega, by go_num, rfl, hO3.reads, hEr.trans hE3⟩
              case measure => simp [intOf]; omega
            · have hjn : j = n' := by omega
              subst hjn
              have hP := HPy.out j
              rw [HTk.out] at hP hR
              have hR63 := hR.n63
              have hRl := hR.len
              have hn2 : n2 ≤ j + 1 := by have := hP.2.2; have := HL.out.2; omega
              have HRn := Lib.hid hn2
              have HRl := Lib.hid hRl
              have HPp := Lib.hid hP.2.1
              have HRTk := Lib.hid (fun i z (hz : (subA (yf, ya, yn) set)[i]? = some z) => putL_take (s := wouM (s.take k) set) hz)
              have HRP := Lib.hid (fun i => putL_poss (s := wouM (s.take k) set) (l := (subA (yf, ya, yn) set).take i) HWp.out (fun z hz => hP.2.1 z (List.mem_of_mem_take hz)))
              have HRL := Lib.hid (fun i => putL_len ((subA (yf, ya, yn) set).take i) (wouM (s.take k) set))
              have HYE : putL (wouM (s.take k) set) ((subA (yf, ya, yn) set).take n2) = wouM (s.take (k + 1)) set := by rw [List.take_of_length_le (l := subA (yf, ya, yn) set) (by omega)]; exact HY.out
              have HYE := Lib.hid HYE
              have HWl := Lib.hid hO5.1
              have hle6 : w.heap.size ≤ w6.heap.size := hE6.le
              have hOr := hO5.e hEr
              have hEwr := hE6.trans hEr
              generalize subA (yf, ya, yn) set = rs at *
              generalize wouM (s.take k) set = ws at *
              clear hP hn2 hRl
              obtain ⟨w7, hw7⟩ : ∃ w7, w7 = wr := ⟨_, rfl⟩
              subst hw7
              go_wp2_with fail
              go_loopw [7, 11] (fun t0 tk wr => ∃ (i n3 c3 : Nat) (A3 : Option Addr), i ≤ n2 ∧ tk = .int .i64 i ∧ t0 = .slice A3 n3 c3 ∧ OwnL wr w.heap.size A3 n3 c3 (putL ws (rs.take i)) ∧ E w7 wr) (fun _ tk _ => n2 - (intOf tk).toNat)
              case atStart => exact ⟨0, n1, c1, A1, Nat.zero_le _, rfl, rfl, hOr, E.refl _⟩
              case round =>
                clear hOr hO5
                obtain ⟨i, n3, c3, A3, hi, rfl, rfl, hO3, hEi⟩ := hrel
                by_cases hlt3 : i < n2
                · obtain ⟨b3, o3, z, rfl, hb3, hz, hwz, f0, f1, f2⟩ := (hR.e hEi).get hlt3
                  have hiI : (i : Int) < (n2 : Int) := by omega
                  have hn3 : n3 ≤ 1000000 := by
                    have h1 := hO3.1
                    have h2 := HRL.out i
                    have h3 : (rs.take i).length ≤ i := List.length_take_le _ _
                    have h4 := HWl.out
                    have h5 := HB.out
                    have h6 := HRn.out
                    omega
                  have hpz := HPp.out z (List.mem_of_getElem? hz)
                  have HC := Lib.hid (fun W (hW : E wr W) => refAdd_c z A3 n3 c3 (putL ws (rs.take i)) W (hO3.reads.e hW) (HRP.out i) (fun _ => hpz) hwz hn3)
                  rw [HRTk.out i z hz] at HC
                  obtain ⟨zf, za, zn⟩ := z
                  simp only at f0 f1 f2
                  unfold ltV at HC
                  clear hz hpz hO3
                  have hle := (hEwr.trans hEi).le
                  go_wp2_with fail
                  refine (HC.out _ (E.refl _)).mono ?_
                  rintro e w8 ⟨A4, n4, c4, rfl, hO4, hE4⟩
                  go_wp2_with fail
                  go_roundw
                  case rel => exact ⟨i + 1, n4, c4, A4, by omega, by go_num, rfl, hO4.rebase hle, hEi.trans hE4⟩
                  case measure => simp [intOf]; omega
                · have hin : i = n2 := by omega
                  subst hin
                  rw [HYE.out] at hO3
                  have hEf := hEwr.trans hEi
                  go_wp2_with fail
                  go_roundw
                  case rel => exact ⟨k + 1, n3, c3, A3, by omega, by go_num, rfl, hO3, hEf⟩
                  case measure => simp [intOf]; omega
        · have hkn : k = n := by omega
          subst hkn
          go_wp2_with fail
          go_ret
          exact RetL.mk_ HF.out hO hE
end Go.Proofs.Ytmeplpiamkaniaa
/- The model's Minus, Meet, Within. -/
namespace Go.Proofs.Ytmeplpiamkaniaa
set_option linter.unusedVariables false
set_option linter.unusedSimpArgs false
open Go.RowKit

theorem lset_valid {a : List Lt} (h : validB a = true) : validB (setS a) = true := by
  obtain ⟨v1, v2⟩ := validB_iff.1 h
  obtain ⟨h1, h2, h3, h4⟩ := setP a v2
  exact validB_iff.2 ⟨by omega, h3⟩
theorem lwithout_lset (a b : List Lt) : lwithout (lset a) b = lminus a b := by
  unfold lwithout lminus lset
  cases hv : validB a
  · have : validB [] = true := rfl
    simp only [Bool.false_and, Bool.false_eq_true, if_false, this, Bool.true_and, U_nil]
    have : glue (outU b []) = [] := rfl
    rw [this]
    simp
  · simp only [if_true, lset_valid hv]
theorem lset_len (a : List Lt) : (lset a).length ≤ a.length := by
  unfold lset
  cases hv : validB a
  · simp
  · simp only [if_true]
    exact (setP a (validB_iff.1 hv).2).2.1
theorem lminus_facts {a b : List Lt} (ha : validB a = true) (hb : validB b = true) : lminus a b = glue (outU b (U (setS a))) ∧ (∀ x ∈ lminus a b, possB x = true) ∧ (lminus a b).length ≤ a.length * (b.length + 1) := by
  obtain ⟨h1, h2, h3, h4⟩ := setP a (validB_iff.1 ha).2
  have e : lminus a b = glue (outU b (U (setS a))) := by rw [lminus, ha, hb]; rfl
  obtain ⟨m1, m2⟩ := minus_len h3 (validB_iff.1 hb).2
  rw [e]
  exact ⟨rfl, m1, Nat.le_trans m2 (Nat.mul_le_mul_right _ h2)⟩
theorem lmeet_minus {a b : List Lt} (hb : validB b = true) (hl : a.length * (b.length + 1) ≤ 4096) : lminus a (lminus a b) = lmeet a b := by
  cases ha : validB a
  · rw [lminus, ha, lmeet, ha]; rfl
  · obtain ⟨e, m1, m2⟩ := lminus_facts ha hb
    have hv : validB (lminus a b) = true := validB_iff.2 ⟨by omega, m1⟩
    rw [lminus, ha, hv, lmeet, ha, hb, e]
    simp only [Bool.and_self, if_true]
    exact meet_model (setS a) b

set_option maxHeartbeats 4000000 in
set_option maxRecDepth 100000 in
theorem refMinus_c (A : Option Addr) (n c : Nat) (l : List Lt) (A' : Option Addr) (n' c' : Nat) (l' : List Lt) (w : World) (h : LotsAt w A n c l) (h' : LotsAt w A' n' c' l') (hnn : n * (n' + 1) ≤ 100000) :
    Calls Try.prog 88 #[.slice A n c, .slice A' n' c'] w (RetL w (lminus l l')) := by
  have HS := Lib.hid (refSet_c A n c l w h)
  have HF := Lib.hid (lwithout_lset l l')
  have HL := Lib.hid (lset_len l)
  have HN := Lib.hid hnn
  have HLen := Lib.hid h.len
  clear hnn
  generalize lset l = ls at *
  go_enter Try.func88, Try.ntmps88
  go_wp2_with fail
  refine HS.out.mono ?_
  rintro e w2 ⟨A2, n2, c2, rfl, hO2, hE2⟩
  have hn2 : n2 ≤ n := by have := hO2.1; have := HL.out; have := HLen.out; omega
  have HW := Lib.hid (refWithout_c A2 n2 c2 ls A' n' c' l' w2 hO2.reads (h'.e hE2) (Nat.le_trans (Nat.mul_le_mul_right _ hn2) HN.out))
  have hle := hE2.le
  clear hn2
  go_wp2_with fail
  refine HW.out.mono ?_
  rintro e w3 ⟨A3, n3, c3, rfl, hO3, hE3⟩
  go_wp2_with fail
  go_ret
  exact RetL.mk_ HF.out.symm (hO3.rebase hle) (hE2.trans hE3)
set_option maxHeartbeats 4000000 in
set_option maxRecDepth 100000 in
theorem refMeet_c (A : Option Addr) (n c : Nat) (l : List Lt) (A' : Option Addr) (n' c' : Nat) (l' : List Lt) (w : World) (h : LotsAt w A n c l) (h' : LotsAt w A' n' c' l') (hn : n ≤ 12) (hn' : n' ≤ 12) :
    Calls Try.prog 55 #[.slice A n c, .slice A' n' c'] w (RetL w (lmeet l l')) := by
  have HV := Lib.hid (refValid_c A' n' c' l' w h')
  cases hv : validB l'
  · rw [hv] at HV
    have HF := Lib.hid (show lmeet l l' = [] by rw [lmeet, hv, Bool.and_false]; rfl)
    clear hv
    go_enter Try.func55, Try.ntmps55
    go_wp2_with fail
    refine HV.out.mono ?_
    rintro e w2 ⟨rfl, hE2⟩
    go_wp2_with fail
    go_ret
    exact RetL.mk_ HF.out (OwnL.nil _ _) hE2
  · rw [hv] at HV
    have hl1 := h.len
    have hl2 := h'.len
    have hmul : n * (n' + 1) ≤ 156 := Nat.le_trans (Nat.mul_le_mul hn (show n' + 1 ≤ 13 by omega)) (by omega)
    have HF := Lib.hid (lmeet_minus (a := l) hv (by rw [hl1, hl2]; omega))
    have HM := Lib.hid (fun W (hE : E w W) => refMinus_c A n c l A' n' c' l' W (h.e hE) (h'.e hE) (by omega))
    have HML : (lminus l l').length ≤ 156 := by
      cases ha : validB l
      · have : lminus l l' = [] := by rw [lminus, ha]; rfl
        rw [this]; simp
      · have := (lminus_facts ha hv).2.2
        rw [hl1, hl2] at this
        omega
    have HML := Lib.hid HML
    have HN := Lib.hid hn
    generalize lminus l l' = m0 at *
    clear hv hl1 hl2 hmul hn hn'
    go_enter Try.func55, Try.ntmps55
    go_wp2_with fail
    refine HV.out.mono ?_
    rintro e w2 ⟨rfl, hE2⟩
    go_wp2_with fail
    refine (HM.out _ hE2).mono ?_
    rintro e w3 ⟨A3, n3, c3, rfl, hO3, hE3⟩
    have hE23 := hE2.trans hE3
    have hn3 : n3 ≤ 156 := by have := hO3.1; have := HML.out; omega
    have HM2 := Lib.hid (refMinus_c A n c l A3 n3 c3 m0 w3 (h.e hE23) hO3.reads (Nat.le_trans (Nat.mul_le_mul HN.out (show n3 + 1 ≤ 157 by omega)) (by omega)))
    have hle := hE23.le
    clear hn3
    go_wp2_with fail
    refine HM2.out.mono ?_
    rintro e w4 ⟨A4, n4, c4, rfl, hO4, hE4⟩
    go_wp2_with fail
    go_ret
    exact RetL.mk_ HF.out.symm (hO4.rebase hle) (hE23.trans hE4)
end Go.Proofs.Ytmeplpiamkaniaa
