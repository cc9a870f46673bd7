/- Lemmas of the claim, joined: LawUn. No condition. -/
import Derived.Test.YtgbamgijpgjmgaaBL
import Derived.Test.YtgbamgijpgjmgaaBJ
/- LotsUnits. -/
namespace Go.Proofs.Ytgbamgijpgjmgaa
open Go.RowKit Go.Shelf

theorem gen_two {a b : List Lt} (ha : GenL a) (hb : GenL b) (h1 : a.length ≤ 7) (h2 : b.length ≤ 7) : Two a b := ⟨genL_valid ha h1, genL_valid hb h2, by omega, by omega⟩
theorem valid_poss {l : List Lt} (h : validB l = true) : ∀ x ∈ l, possB x = true := (validB_iff.1 h).2
set_option maxHeartbeats 16000000 in
set_option maxRecDepth 100000 in
theorem lotsUnits_w (A : Option Addr) (n c : Nat) (l : List Int) (A' : Option Addr) (n' c' : Nat) (l' : List Int) (w : World) (h : Nums .i64 w A n c l) (h' : Nums .i64 w A' n' c' l') :
    Calls Try.prog 10 #[.slice A n c, .slice A' n' c'] w fun e w' => e = .returned (.bool true) ∧ E w w' := by
  have HG1 := Lib.hid (lots14_c 0 A n c l w h (by omega))
  have HG2 := Lib.hid (fun W (hE : E w W) => lots14_c 0 A' n' c' l' W (h'.e hE) (by omega))
  go_enter Try.func10, Try.ntmps10
  go_wp2_with fail
  refine HG1.out.mono ?_
  rintro e w1 ⟨a, hla, hga, A1, n1, c1, rfl, hO1, hE1⟩
  go_wp2_with fail
  refine (HG2.out _ hE1).mono ?_
  rintro e w2 ⟨b, hlb, hgb, A2, n2, c2, rfl, hO2, hE2⟩
  have hT := gen_two hga hgb hla hlb
  have hR1 := hO1.reads.e hE2
  have hR2 := hO2.reads
  have hn1 : n1 ≤ 300 := by have := hO1.1; omega
  have hn2 : n2 ≤ 300 := by have := hO2.1; omega
  have HE02 := Lib.hid (hE1.trans hE2)
  have HT := Lib.hid hT
  have HRR := Lib.hid (And.intro hR1 hR2)
  have HNN := Lib.hid (And.intro hn1 hn2)
  clear hO1 hO2 hE1 hE2 hga hgb hla hlb hT hR1 hR2 hn1 hn2
  go_wp2_with fail
  refine (lSet_c A1 n1 c1 a w2 HRR.out.1).mono ?_
  rintro e w3 ⟨A3, n3, c3, rfl, hO3, hE3⟩
  go_wp2_with fail
  refine (lUnion_c A1 n1 c1 a A2 n2 c2 b w3 (HRR.out.1.e hE3) (HRR.out.2.e hE3)).mono ?_
  rintro e w4 ⟨A4, n4, c4, rfl, hO4, hE4⟩
  have hE24 := hE3.trans hE4
  go_wp2_with fail
  refine (lMinus_c A1 n1 c1 a A2 n2 c2 b w4 (HRR.out.1.e hE24) (HRR.out.2.e hE24) HNN.out.1 HNN.out.2).mono ?_
  rintro e w5 ⟨A5, n5, c5, rfl, hO5, hE5⟩
  have hE25 := hE24.trans hE5
  go_wp2_with fail
  refine (lMeet_c A1 n1 c1 a A2 n2 c2 b w5 (HRR.out.1.e hE25) (HRR.out.2.e hE25) HNN.out.1 HNN.out.2).mono ?_
  rintro e w6 ⟨A6, n6, c6, rfl, hO6, hE6⟩
  have hE26 := hE25.trans hE6
  go_wp2_with fail
  refine (lWithout_c A1 n1 c1 a A2 n2 c2 b w6 (HRR.out.1.e hE26) (HRR.out.2.e hE26) HNN.out.1 HNN.out.2).mono ?_
  rintro e w7 ⟨A7, n7, c7, rfl, hO7, hE7⟩
  have hE27 := hE26.trans hE7
  have R3 := hO3.reads.e ((hE4.trans hE5).trans (hE6.trans hE7))
  have R4 := hO4.reads.e (hE5.trans (hE6.trans hE7))
  have R5 := hO5.reads.e (hE6.trans hE7)
  have R6 := hO6.reads.e hE7
  have R7 := hO7.reads
  have hT := HT.out
  have HHa := Lib.hid (fun f x W (hE : E w7 W) => has_c f x A1 n1 c1 a W ((HRR.out.1.e hE27).e hE) hT.pa)
  have HHb := Lib.hid (fun f x W (hE : E w7 W) => has_c f x A2 n2 c2 b W ((HRR.out.2.e hE27).e hE) hT.pb)
  have HH3 := Lib.hid (fun f x W (hE : E w7 W) => (show Calls Try.prog 41 #[.slice A3 n3 c3, .int .i64 f, .int .i64 x] W (RetK W (hasB a (f, x))) by rw [← hT.hset]; exact has_c f x A3 n3 c3 _ W (R3.e hE) (valid_poss hT.vset)))
  have HH4 := Lib.hid (fun f x W (hE : E w7 W) => (show Calls Try.prog 41 #[.slice A4 n4 c4, .int .i64 f, .int .i64 x] W (RetK W (hasB a (f, x) || hasB b (f, x))) by rw [← hT.hunion]; exact has_c f x A4 n4 c4 _ W (R4.e hE) (valid_poss hT.vunion.1)))
  have HH5 := Lib.hid (fun f x W (hE : E w7 W) => (show Calls Try.prog 41 #[.slice A5 n5 c5, .int .i64 f, .int .i64 x] W (RetK W (hasB a (f, x) && !hasB b (f, x))) by rw [← hT.hminus]; exact has_c f x A5 n5 c5 _ W (R5.e hE) (valid_poss hT.vminus.1)))
  have HH6 := Lib.hid (fun f x W (hE : E w7 W) => (show Calls Try.prog 41 #[.slice A6 n6 c6, .int .i64 f, .int .i64 x] W (RetK W (hasB a (f, x) && hasB b (f, x))) by rw [← hT.hmeet]; exact has_c f x A6 n6 c6 _ W (R6.e hE) (valid_poss hT.vmeet.1)))
  have HH7 := Lib.hid (fun f x W (hE : E w7 W) => (show Calls Try.prog 41 #[.slice A7 n7 c7, .int .i64 f, .int .i64 x] W (RetK W (hasB a (f, x) && !hasB b (f, x))) by rw [← hT.hwithout]; exact has_c f x A7 n7 c7 _ W (R7.e hE) (valid_poss hT.vwithout.1)))
  have HR := Lib.hid (And.intro R3 (And.intro R4 (And.intro R5 (And.intro R6 (And.intro (HRR.out.1.e hE27) (HRR.out.2.e hE27))))))
  have HE07 := Lib.hid (HE02.out.trans hE27)
  clear hO3 hO4 hO5 hO6 hO7 hE3 hE4 hE5 hE6 hE7 hE24 hE25 hE26 hE27 R3 R4 R5 R6 R7 hT
  go_wp2_with fail
  go_loopw [12, 13] (fun tw ti wr => ∃ (i : Nat) (wi : Bool), i ≤ 5 ∧ ti = .int .i64 i ∧ tw = .bool wi ∧ E w7 wr ∧ Hid (wi = false → lwithin a b = false)) (fun _ ti _ => 5 - (intOf ti).toNat)
  case atStart => exact ⟨0, true, by omega, rfl, rfl, E.refl _, show true = false → _ from fun h => by cases h⟩
  case round =>
    obtain ⟨i, wi, hi, rfl, rfl, hE, hwi⟩ := hrel
    by_cases hlt : i < 5
    · have hiI : (i : Int) < 5 := by omega
      go_wp2_with fail
      go_loopw [12, 14] (fun tw ti wr => ∃ (j : Nat) (wi : Bool), j ≤ 21 ∧ ti = .int .i64 j ∧ tw = .bool wi ∧ E w7 wr ∧ Hid (wi = false → lwithin a b = false)) (fun _ ti _ => 21 - (intOf ti).toNat)
      case atStart => exact ⟨0, wi, by omega, rfl, rfl, hE, hwi⟩
      case round =>
        clear hwi hE
        obtain ⟨j, wi, hj, rfl, rfl, hE, hwi⟩ := hrel
        by_cases hlt2 : j < 21
        · have hjI : (j : Int) < 21 := by omega
          have Ha := Lib.hid (HHa.out i j)
          have Hb := Lib.hid (HHb.out i j)
          have H3 := Lib.hid (HH3.out i j)
          have H4 := Lib.hid (HH4.out i j)
          have H5 := Lib.hid (HH5.out i j)
          have H6 := Lib.hid (HH6.out i j)
          have H7 := Lib.hid (HH7.out i j)
          have HWn := Lib.hid (fun h1 h2 => within_of_not (a := a) (b := b) (u := ((i : Int), (j : Int))) h1 h2)
          generalize hasB a ((i : Int), (j : Int)) = x at *
          generalize hasB b ((i : Int), (j : Int)) = y at *
          cases x <;> cases y
          · -- false false
            go_wp2_with fail
            refine (Ha.out _ hE).mono ?_
            rintro e v1 ⟨rfl, hE1⟩
            have hE := hE.trans hE1
            clear hE1
            go_wp2_with fail
            refine (Hb.out _ hE).mono ?_
            rintro e v2 ⟨rfl, hE2⟩
            have hE := hE.trans hE2
            clear hE2
            go_wp2_with fail
            refine (H3.out _ hE).mono ?_
            rintro e v3 ⟨rfl, hE3⟩
            have hE := hE.trans hE3
            clear hE3
            go_wp2_with fail
            refine (H4.out _ hE).mono ?_
            rintro e v4 ⟨rfl, hE4⟩
            have hE := hE.trans hE4
            clear hE4
            go_wp2_with fail
            refine (H5.out _ hE).mono ?_
            rintro e v5 ⟨rfl, hE5⟩
            have hE := hE.trans hE5
            clear hE5
            go_wp2_with fail
            refine (H6.out _ hE).mono ?_
            rintro e v6 ⟨rfl, hE6⟩
            have hE := hE.trans hE6
            clear hE6
            go_wp2_with fail
            refine (H7.out _ hE).mono ?_
            rintro e v7 ⟨rfl, hE7⟩
            have hE := hE.trans hE7
            clear hE7
            cases wi
            · go_wp2_with fail
              go_roundw
              case rel => exact ⟨j + 1, _, by omega, by go_num, rfl, hE, by first | exact hwi | exact show Hid _ from (fun _ => hwi.out trivial)⟩
              case measure => simp [intOf]; omega
            · go_wp2_with fail
              go_roundw
              case rel => exact ⟨j + 1, _, by omega, by go_num, rfl, hE, by first | exact hwi | exact show Hid _ from (fun _ => hwi.out trivial)⟩
              case measure => simp [intOf]; omega
          · -- false true
            go_wp2_with fail
            refine (Ha.out _ hE).mono ?_
            rintro e v1 ⟨rfl, hE1⟩
            have hE := hE.trans hE1
            clear hE1
            go_wp2_with fail
            refine (Hb.out _ hE).mono ?_
            rintro e v2 ⟨rfl, hE2⟩
            have hE := hE.trans hE2
            clear hE2
            go_wp2_with fail
            refine (H3.out _ hE).mono ?_
            rintro e v3 ⟨rfl, hE3⟩
            have hE := hE.trans hE3
            clear hE3
            go_wp2_with fail
            refine (H4.out _ hE).mono ?_
            rintro e v4 ⟨rfl, hE4⟩
            have hE := hE.trans hE4
            clear hE4
            go_wp2_with fail
            refine (H5.out _ hE).mono ?_
            rintro e v5 ⟨rfl, hE5⟩
            have hE := hE.trans hE5
            clear hE5
            go_wp2_with fail
            refine (H6.out _ hE).mono ?_
            rintro e v6 ⟨rfl, hE6⟩
            have hE := hE.trans hE6
            clear hE6
            go_wp2_with fail
            refine (H7.out _ hE).mono ?_
            rintro e v7 ⟨rfl, hE7⟩
            have hE := hE.trans hE7
            clear hE7
            cases wi
            · go_wp2_with fail
              go_roundw
              case rel => exact ⟨j + 1, _, by omega, by go_num, rfl, hE, by first | exact hwi | exact show Hid _ from (fun _ => hwi.out trivial)⟩
              case measure => simp [intOf]; omega
            · go_wp2_with fail
              go_roundw
              case rel => exact ⟨j + 1, _, by omega, by go_num, rfl, hE, by first | exact hwi | exact show Hid _ from (fun _ => hwi.out trivial)⟩
              case measure => simp [intOf]; omega
          · -- true false
            go_wp2_with fail
            refine (Ha.out _ hE).mono ?_
            rintro e v1 ⟨rfl, hE1⟩
            have hE := hE.trans hE1
            clear hE1
            go_wp2_with fail
            refine (Hb.out _ hE).mono ?_
            rintro e v2 ⟨rfl, hE2⟩
            have hE := hE.trans hE2
            clear hE2
            go_wp2_with fail
            refine (H3.out _ hE).mono ?_
            rintro e v3 ⟨rfl, hE3⟩
            have hE := hE.trans hE3
            clear hE3
            go_wp2_with fail
            refine (H4.out _ hE).mono ?_
            rintro e v4 ⟨rfl, hE4⟩
            have hE := hE.trans hE4
            clear hE4
            go_wp2_with fail
            refine (H5.out _ hE).mono ?_
            rintro e v5 ⟨rfl, hE5⟩
            have hE := hE.trans hE5
            clear hE5
            go_wp2_with fail
            refine (H6.out _ hE).mono ?_
            rintro e v6 ⟨rfl, hE6⟩
            have hE := hE.trans hE6
            clear hE6
            go_wp2_with fail
            refine (H7.out _ hE).mono ?_
            rintro e v7 ⟨rfl, hE7⟩
            have hE := hE.trans hE7
            clear hE7
            have hn : lwithin a b = false := HWn.out (by first | rfl | trivial) (by first | rfl | trivial)
            have HN := Lib.hid (show ∀ z : Bool, z = false → lwithin a b = false from fun _ _ => hn)
            clear hn
            cases wi
            · go_wp2_with fail
              go_roundw
              case rel => exact ⟨j + 1, _, by omega, by go_num, rfl, hE, HN.out _⟩
              case measure => simp [intOf]; omega
            · go_wp2_with fail
              go_roundw
              case rel => exact ⟨j + 1, _, by omega, by go_num, rfl, hE, HN.out _⟩
              case measure => simp [intOf]; omega
          · -- true true
            go_wp2_with fail
            refine (Ha.out _ hE).mono ?_
            rintro e v1 ⟨rfl, hE1⟩
            have hE := hE.trans hE1
            clear hE1
            go_wp2_with fail
            refine (Hb.out _ hE).mono ?_
            rintro e v2 ⟨rfl, hE2⟩
            have hE := hE.trans hE2
            clear hE2
            go_wp2_with fail
            refine (H3.out _ hE).mono ?_
            rintro e v3 ⟨rfl, hE3⟩
            have hE := hE.trans hE3
            clear hE3
            go_wp2_with fail
            refine (H4.out _ hE).mono ?_
            rintro e v4 ⟨rfl, hE4⟩
            have hE := hE.trans hE4
            clear hE4
            go_wp2_with fail
            refine (H5.out _ hE).mono ?_
            rintro e v5 ⟨rfl, hE5⟩
            have hE := hE.trans hE5
            clear hE5
            go_wp2_with fail
            refine (H6.out _ hE).mono ?_
            rintro e v6 ⟨rfl, hE6⟩
            have hE := hE.trans hE6
            clear hE6
            go_wp2_with fail
            refine (H7.out _ hE).mono ?_
            rintro e v7 ⟨rfl, hE7⟩
            have hE := hE.trans hE7
            clear hE7
            cases wi
            · go_wp2_with fail
              go_roundw
              case rel => exact ⟨j + 1, _, by omega, by go_num, rfl, hE, by first | exact hwi | exact show Hid _ from (fun _ => hwi.out trivial)⟩
              case measure => simp [intOf]; omega
            · go_wp2_with fail
              go_roundw
              case rel => exact ⟨j + 1, _, by omega, by go_num, rfl, hE, by first | exact hwi | exact show Hid _ from (fun _ => hwi.out trivial)⟩
              case measure => simp [intOf]; omega
        · go_wp2_with fail
          go_roundw
          case rel => exact ⟨i + 1, wi, by omega, by go_num, rfl, hE, by first | exact hwi | exact show Hid _ from (fun _ => hwi.out trivial)⟩
          case measure => simp [intOf]; omega
    · have hT := HT.out
      have T4 := Lib.hid (fun W (hE : E w7 W) => total_c A4 n4 c4 _ W (HR.out.2.1.e hE))
      have T3 := Lib.hid (fun W (hE : E w7 W) => total_c A3 n3 c3 _ W (HR.out.1.e hE))
      have T5 := Lib.hid (fun W (hE : E w7 W) => total_c A5 n5 c5 _ W (HR.out.2.2.1.e hE))
      have T6 := Lib.hid (fun W (hE : E w7 W) => total_c A6 n6 c6 _ W (HR.out.2.2.2.1.e hE))
      have TS := Lib.hid (fun W (hE : E w7 W) => lSet_c A2 n2 c2 b W (HR.out.2.2.2.2.2.e hE))
      have TW := Lib.hid (fun W (hE : E w7 W) => lWithin_c A1 n1 c1 a A2 n2 c2 b W (HR.out.2.2.2.2.1.e hE) (HR.out.2.2.2.2.2.e hE) HNN.out.1 HNN.out.2)
      obtain ⟨e1, e2⟩ := hT.tots
      have r4 := tot_range (l := lunion a b)
      have r3 := tot_range (l := lset a)
      have rb := tot_range (l := lset b)
      have r5 := tot_range (l := lminus a b)
      have r6 := tot_range (l := lmeet a b)
      have HB := Lib.hid (fun A9 n9 c9 W (h : LotsAt W A9 n9 c9 (lset b)) => total_c A9 n9 c9 _ W h)
      generalize totalS (lunion a b) = t4 at *
      generalize totalS (lset a) = t3 at *
      generalize totalS (lset b) = tb at *
      generalize totalS (lminus a b) = t5 at *
      generalize totalS (lmeet a b) = t6 at *
      have hwr1 : IntKind.i64.wrap (t3 + tb) = t3 + tb := by rw [IntKind.wrap_i64]; omega
      have hwr2 : IntKind.i64.wrap (t3 + tb - t6) = t3 + tb - t6 := by rw [IntKind.wrap_i64]; omega
      have hwr3 : IntKind.i64.wrap (t5 + t6) = t5 + t6 := by rw [IntKind.wrap_i64]; omega
      have q1 : (t4 == t3 + tb - t6) = true := by simpa using e1
      have q2 : (t3 == t5 + t6) = true := by simpa using e2
      clear e1 e2 r4 r3 rb r5 r6 hT
      have HQ := Lib.hid (And.intro q1 q2)
      have HWi := hwi
      cases wi
      · have hw0 := HWi.out rfl
        rw [hw0] at TW
        clear hw0 hwi HWi
        go_wp2_with fail
        refine (TW.out _ hE).mono ?_
        rintro e v1 ⟨rfl, hE1⟩
        have hE := hE.trans hE1
        clear hE1
        go_wp2_with fail
        refine (T4.out _ hE).mono ?_
        rintro e v2 ⟨rfl, hE2⟩
        have hE := hE.trans hE2
        clear hE2
        go_wp2_with fail
        refine (T3.out _ hE).mono ?_
        rintro e v3 ⟨rfl, hE3⟩
        have hE := hE.trans hE3
        clear hE3
        go_wp2_with fail
        refine (TS.out _ hE).mono ?_
        rintro e v4 ⟨A9, n9, c9, rfl, hO9, hE4⟩
        have hE := hE.trans hE4
        clear hE4
        go_wp2_with fail
        refine (HB.out A9 n9 c9 _ hO9.reads).mono ?_
        rintro e v5 ⟨rfl, hE5⟩
        have hE := hE.trans hE5
        clear hE5 hO9
        go_wp2_with fail
        refine (T6.out _ hE).mono ?_
        rintro e v6 ⟨rfl, hE6⟩
        have hE := hE.trans hE6
        clear hE6
        go_wp2_with fail
        refine (T3.out _ hE).mono ?_
        rintro e v7 ⟨rfl, hE7⟩
        have hE := hE.trans hE7
        clear hE7
        go_wp2_with fail
        refine (T5.out _ hE).mono ?_
        rintro e v8 ⟨rfl, hE8⟩
        have hE := hE.trans hE8
        clear hE8
        go_wp2_with fail
        refine (T6.out _ hE).mono ?_
        rintro e v9 ⟨rfl, hE9⟩
        have hE := hE.trans hE9
        clear hE9
        go_wp2_with fail
        refine (lives14_c _).mono ?_
        rintro e v10 ⟨rfl, hE10⟩
        go_wp2_with fail
        go_ret
        exact ⟨rfl, HE07.out.trans (hE.trans hE10)⟩
      · clear hwi HWi
        go_wp2_with fail
        refine (T4.out _ hE).mono ?_
        rintro e v2 ⟨rfl, hE2⟩
        have hE := hE.trans hE2
        clear hE2
        go_wp2_with fail
        refine (T3.out _ hE).mono ?_
        rintro e v3 ⟨rfl, hE3⟩
        have hE := hE.trans hE3
        clear hE3
        go_wp2_with fail
        refine (TS.out _ hE).mono ?_
        rintro e v4 ⟨A9, n9, c9, rfl, hO9, hE4⟩
        have hE := hE.trans hE4
        clear hE4
        go_wp2_with fail
        refine (HB.out A9 n9 c9 _ hO9.reads).mono ?_
        rintro e v5 ⟨rfl, hE5⟩
        have hE := hE.trans hE5
        clear hE5 hO9
        go_wp2_with fail
        refine (T6.out _ hE).mono ?_
        rintro e v6 ⟨rfl, hE6⟩
        have hE := hE.trans hE6
        clear hE6
        go_wp2_with fail
        refine (T3.out _ hE).mono ?_
        rintro e v7 ⟨rfl, hE7⟩
        have hE := hE.trans hE7
        clear hE7
        go_wp2_with fail
        refine (T5.out _ hE).mono ?_
        rintro e v8 ⟨rfl, hE8⟩
        have hE := hE.trans hE8
        clear hE8
        go_wp2_with fail
        refine (T6.out _ hE).mono ?_
        rintro e v9 ⟨rfl, hE9⟩
        have hE := hE.trans hE9
        clear hE9
        go_wp2_with fail
        refine (lives14_c _).mono ?_
        rintro e v10 ⟨rfl, hE10⟩
        go_wp2_with fail
        go_ret
        exact ⟨rfl, HE07.out.trans (hE.trans hE10)⟩
end Go.Proofs.Ytgbamgijpgjmgaa
