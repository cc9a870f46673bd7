/- Contracts of the reference's Add, Sub, Join, Meet. -/
import Derived.Test.YtbpfdogjjoceaaaEV
import Derived.StillTailTactics
namespace Go.Proofs.Ytbpfdogjjoceaaa
open Go.RowKit

set_option maxHeartbeats 2000000 in
set_option maxRecDepth 100000 in
theorem refAdd_c (A1 A2 : Option Addr) (n1 c1 n2 c2 : Nat) (l1 l2 : List Int) (w : World) (h1 : Nums .i64 w A1 n1 c1 l1) (h2 : Nums .i64 w A2 n2 c2 l2) :
    Calls Try.prog 35 #[.slice A1 n1 c1, .slice A2 n2 c2] w (RetOwnErr .i64 3 w (addS l1 l2)) := by
  have m1 := h1.n63
  cases hf : fitB l1 l2
  · have HT := Lib.hid (show addS l1 l2 = ([], 1) by rw [addS, hf]; rfl)
    go_enter Try.func35, Try.ntmps35
    go_wp2_with (go_at_call 54; refine (fit_c _ _ _ _ _ _ _ _ _ h1 h2).mono ?_; rintro e w' ⟨rfl, rfl⟩)
    go_ret2
    exact RetOwnErr.mk_ HT.out (Own.nil _ _ _ _) (E.refl _)
  · have hn : n1 = n2 := by have := fit_len hf; have := h1.len; have := h2.len; omega
    subst hn
    have HT := Lib.hid (show addS l1 l2 = pre [] (combF (fun x y => lim1 (x + y)) l1 l2) by rw [addS, hf]; exact (pre_nil _ _ _).symm)
    have HB1 := Lib.hid (fit_a hf)
    have HB2 := Lib.hid (fit_b hf)
    have hn64 : n1 ≤ 64 := by have := isBag_len (fit_a hf); rw [h1.len] at this; exact this
    go_enter Try.func35, Try.ntmps35
    go_wp2_with (go_at_call 54; refine (fit_c _ _ _ _ _ _ _ _ _ h1 h2).mono ?_; rintro e w' ⟨rfl, rfl⟩)
    go_loopw [7, 8] (fun t i wr => ∃ (k c' : Nat) (A' : Option Addr) (out : List Int), k ≤ n1 ∧ i = .int .i64 k ∧ t = .slice A' k c' ∧ Own .i64 3 wr w.heap.size A' k c' out ∧ E w wr ∧ Hid (pre out (combF (fun x y => lim1 (x + y)) (l1.drop k) (l2.drop k)) = addS l1 l2)) (fun _ i _ => n1 - (intOf i).toNat)
    case atStart => exact ⟨0, 0, none, [], Nat.zero_le _, rfl, rfl, Own.nil _ _ _ _, E.refl _, HT.out.symm⟩
    case round =>
      obtain ⟨k, c', A', out, hk, rfl, rfl, hown, hE, hs⟩ := hrel
      have hle := hE.le
      by_cases hlt : k < n1
      · obtain ⟨b1, o1, x, rfl, hb1, hx, hwx, hc1⟩ := h1.get hlt
        replace hc1 := (hE.cell (p := ⟨b1, _, none⟩) hb1).trans hc1
        obtain ⟨b2, o2, y, rfl, hb2, hy, hwy, hc2⟩ := h2.get hlt
        replace hc2 := (hE.cell (p := ⟨b2, _, none⟩) hb2).trans hc2
        obtain ⟨x0, x1⟩ := isBag_get HB1.out hx
        obtain ⟨y0, y1⟩ := isBag_get HB2.out hy
        have HX := Lib.hid hx
        have HY := Lib.hid hy
        clear hx hy hwx hwy
        by_cases hz : 1099511627776 < x + y
        · have HF := Lib.hid (show ((fun x y => lim1 (x + y))) x y = (0, 4) by simp [lim1, hz])
          go_wp2
          go_quiet (fail)
          go_wp2
          go_ret2
          exact RetOwnErr.mk_ (by rw [← hs.out, comb_err HX.out HY.out (by rw [HF.out]; decide), HF.out]) (Own.nil _ _ _ _) (hE.drewN _)
        · have HF := Lib.hid (show ((fun x y => lim1 (x + y))) x y = (x + y, 0) by simp [lim1, hz])
          go_wp2
          go_quiet (fail)
          go_wp2
          have hwrap : IntKind.i64.wrap (x + y) = x + y := IntWalk.i64_in _ (by omega)
          go_region_held3 (fun w' => w.heap.size ≤ w'.heap.size ∧ ∀ b o, b < w.heap.size → w'.cell? ⟨b, o, none⟩ = wr.cell? ⟨b, o, none⟩)
            (first | exact ⟨hle, fun _ _ _ => rfl⟩ | exact sKeep (by assumption) ((E.refl _).alloc _) | exact sKeepB (by assumption) (by assumption))
            ((refine step_app1 intT (by rfl) _ _ (by rfl) w.heap.size _ _ _ _ (by rfl) (hown.e (by first | exact ((E.refl _).alloc _).drewN _ | exact ((E.refl _).alloc _).drew)) _ _ (by rfl) (cell_new _ _ _) (wf_of_i64 (by omega) (by omega)) (by omega) (by simp; omega) ?_; intro g' c2 w1 hO hG hB))
          rename_i hHeld
          clear hHeld hwrap
          have hB2 : Below w.heap.size wr w1 := ((Below.refl _ _).alloc hle _).trans ⟨hB.os, hB.tape, hB.output, hB.size, hB.block⟩
          go_wp2
          go_roundw
          case rel => exact ⟨k + 1, c2, _, _, by omega, by go_num, rfl, hO, hE.up hB2, show _ = _ by rw [← hs.out, comb_ok HX.out HY.out (by rw [HF.out]), HF.out]⟩
          case measure => simp [intOf]; omega
      · have HF := Lib.hid (show addS l1 l2 = (out, 0) by rw [← hs.out, drop_end h1.len (by omega), comb_end])
        go_wp2
        go_ret2
        exact RetOwnErr.mk_ HF.out hown hE

set_option maxHeartbeats 2000000 in
set_option maxRecDepth 100000 in
theorem refSub_c (A1 A2 : Option Addr) (n1 c1 n2 c2 : Nat) (l1 l2 : List Int) (w : World) (h1 : Nums .i64 w A1 n1 c1 l1) (h2 : Nums .i64 w A2 n2 c2 l2) :
    Calls Try.prog 36 #[.slice A1 n1 c1, .slice A2 n2 c2] w (RetOwnErr .i64 3 w (subS l1 l2)) := by
  have m1 := h1.n63
  cases hf : fitB l1 l2
  · have HT := Lib.hid (show subS l1 l2 = ([], 1) by rw [subS, hf]; rfl)
    go_enter Try.func36, Try.ntmps36
    go_wp2_with (go_at_call 54; refine (fit_c _ _ _ _ _ _ _ _ _ h1 h2).mono ?_; rintro e w' ⟨rfl, rfl⟩)
    go_ret2
    exact RetOwnErr.mk_ HT.out (Own.nil _ _ _ _) (E.refl _)
  · have hn : n1 = n2 := by have := fit_len hf; have := h1.len; have := h2.len; omega
    subst hn
    have HT := Lib.hid (show subS l1 l2 = pre [] (combF sub1 l1 l2) by rw [subS, hf]; exact (pre_nil _ _ _).symm)
    have HB1 := Lib.hid (fit_a hf)
    have HB2 := Lib.hid (fit_b hf)
    have hn64 : n1 ≤ 64 := by have := isBag_len (fit_a hf); rw [h1.len] at this; exact this
    go_enter Try.func36, Try.ntmps36
    go_wp2_with (go_at_call 54; refine (fit_c _ _ _ _ _ _ _ _ _ h1 h2).mono ?_; rintro e w' ⟨rfl, rfl⟩)
    go_loopw [7, 8] (fun t i wr => ∃ (k c' : Nat) (A' : Option Addr) (out : List Int), k ≤ n1 ∧ i = .int .i64 k ∧ t = .slice A' k c' ∧ Own .i64 3 wr w.heap.size A' k c' out ∧ E w wr ∧ Hid (pre out (combF sub1 (l1.drop k) (l2.drop k)) = subS l1 l2)) (fun _ i _ => n1 - (intOf i).toNat)
    case atStart => exact ⟨0, 0, none, [], Nat.zero_le _, rfl, rfl, Own.nil _ _ _ _, E.refl _, HT.out.symm⟩
    case round =>
      obtain ⟨k, c', A', out, hk, rfl, rfl, hown, hE, hs⟩ := hrel
      have hle := hE.le
      by_cases hlt : k < n1
      · obtain ⟨b1, o1, x, rfl, hb1, hx, hwx, hc1⟩ := h1.get hlt
        replace hc1 := (hE.cell (p := ⟨b1, _, none⟩) hb1).trans hc1
        obtain ⟨b2, o2, y, rfl, hb2, hy, hwy, hc2⟩ := h2.get hlt
        replace hc2 := (hE.cell (p := ⟨b2, _, none⟩) hb2).trans hc2
        obtain ⟨x0, x1⟩ := isBag_get HB1.out hx
        obtain ⟨y0, y1⟩ := isBag_get HB2.out hy
        have HX := Lib.hid hx
        have HY := Lib.hid hy
        clear hx hy hwx hwy
        by_cases hz : x < y
        · have HF := Lib.hid (show (sub1) x y = (0, 10) by simp [sub1, hz])
          go_wp2
          go_quiet (fail)
          go_wp2
          go_ret2
          exact RetOwnErr.mk_ (by rw [← hs.out, comb_err HX.out HY.out (by rw [HF.out]; decide), HF.out]) (Own.nil _ _ _ _) (hE.drewN _)
        · have HF := Lib.hid (show (sub1) x y = (x - y, 0) by simp [sub1, hz])
          go_wp2
          go_quiet (fail)
          go_wp2
          have hwrap : IntKind.i64.wrap (x - y) = x - y := IntWalk.i64_in _ (by omega)
          go_region_held3 (fun w' => w.heap.size ≤ w'.heap.size ∧ ∀ b o, b < w.heap.size → w'.cell? ⟨b, o, none⟩ = wr.cell? ⟨b, o, none⟩)
            (first | exact ⟨hle, fun _ _ _ => rfl⟩ | exact sKeep (by assumption) ((E.refl _).alloc _) | exact sKeepB (by assumption) (by assumption))
            ((refine step_app1 intT (by rfl) _ _ (by rfl) w.heap.size _ _ _ _ (by rfl) (hown.e (by first | exact ((E.refl _).alloc _).drewN _ | exact ((E.refl _).alloc _).drew)) _ _ (by rfl) (cell_new _ _ _) (wf_of_i64 (by omega) (by omega)) (by omega) (by simp; omega) ?_; intro g' c2 w1 hO hG hB))
          rename_i hHeld
          clear hHeld hwrap
          have hB2 : Below w.heap.size wr w1 := ((Below.refl _ _).alloc hle _).trans ⟨hB.os, hB.tape, hB.output, hB.size, hB.block⟩
          go_wp2
          go_roundw
          case rel => exact ⟨k + 1, c2, _, _, by omega, by go_num, rfl, hO, hE.up hB2, show _ = _ by rw [← hs.out, comb_ok HX.out HY.out (by rw [HF.out]), HF.out]⟩
          case measure => simp [intOf]; omega
      · have HF := Lib.hid (show subS l1 l2 = (out, 0) by rw [← hs.out, drop_end h1.len (by omega), comb_end])
        go_wp2
        go_ret2
        exact RetOwnErr.mk_ HF.out hown hE

set_option maxHeartbeats 2000000 in
set_option maxRecDepth 100000 in
theorem refJoin_c (A1 A2 : Option Addr) (n1 c1 n2 c2 : Nat) (l1 l2 : List Int) (w : World) (h1 : Nums .i64 w A1 n1 c1 l1) (h2 : Nums .i64 w A2 n2 c2 l2) :
    Calls Try.prog 37 #[.slice A1 n1 c1, .slice A2 n2 c2] w (RetOwn .i64 3 w (joinS l1 l2)) := by
  have m1 := h1.n63
  cases hf : fitB l1 l2
  · have HT := Lib.hid (show joinS l1 l2 = [] by rw [joinS, hf]; rfl)
    go_enter Try.func37, Try.ntmps37
    go_wp2_with (go_at_call 54; refine (fit_c _ _ _ _ _ _ _ _ _ h1 h2).mono ?_; rintro e w' ⟨rfl, rfl⟩)
    refine wp_loop_rounds 1 ?_; rw [rounds_succ]
    by_cases h0 : (0 : Int) < (n1 : Int)
    · have hd : decide ((0 : Int) < (n1 : Int)) = true := by simpa using h0
      go_wp2
      go_ret
      exact RetOwn.mk_ HT.out (Own.nil _ _ _ _) (E.refl _)
    · have hd : decide ((0 : Int) < (n1 : Int)) = false := by simpa using h0
      go_wp2
      go_ret
      exact RetOwn.mk_ HT.out (Own.nil _ _ _ _) (E.refl _)
  · have hn : n1 = n2 := by have := fit_len hf; have := h1.len; have := h2.len; omega
    subst hn
    have HT := Lib.hid (show (joinS l1 l2, 0) = pre [] (combF (fun x y => (max x y, 0)) l1 l2) by
      rw [joinS, hf, pre_nil, combF_ok (g := fun x y => max x y) (ok := fun _ _ => True) (fun _ _ _ => rfl) (fit_len hf) (fun _ _ _ _ _ => trivial)]; rfl)
    have HB1 := Lib.hid (fit_a hf)
    have HB2 := Lib.hid (fit_b hf)
    have hn64 : n1 ≤ 64 := by have := isBag_len (fit_a hf); rw [h1.len] at this; exact this
    go_enter Try.func37, Try.ntmps37
    go_wp2_with (go_at_call 54; refine (fit_c _ _ _ _ _ _ _ _ _ h1 h2).mono ?_; rintro e w' ⟨rfl, rfl⟩)
    go_loopw [5, 7] (fun t i wr => ∃ (k c' : Nat) (A' : Option Addr) (out : List Int), k ≤ n1 ∧ i = .int .i64 k ∧ t = .slice A' k c' ∧ Own .i64 3 wr w.heap.size A' k c' out ∧ E w wr ∧ Hid (pre out (combF (fun x y => (max x y, 0)) (l1.drop k) (l2.drop k)) = (joinS l1 l2, 0))) (fun _ i _ => n1 - (intOf i).toNat)
    case atStart => exact ⟨0, 0, none, [], Nat.zero_le _, rfl, rfl, Own.nil _ _ _ _, E.refl _, HT.out.symm⟩
    case round =>
      obtain ⟨k, c', A', out, hk, rfl, rfl, hown, hE, hs⟩ := hrel
      have hle := hE.le
      by_cases hlt : k < n1
      · obtain ⟨b1, o1, x, rfl, hb1, hx, hwx, hc1⟩ := h1.get hlt
        replace hc1 := (hE.cell (p := ⟨b1, _, none⟩) hb1).trans hc1
        obtain ⟨b2, o2, y, rfl, hb2, hy, hwy, hc2⟩ := h2.get hlt
        replace hc2 := (hE.cell (p := ⟨b2, _, none⟩) hb2).trans hc2
        obtain ⟨x0, x1⟩ := isBag_get HB1.out hx
        obtain ⟨y0, y1⟩ := isBag_get HB2.out hy
        have HX := Lib.hid hx
        have HY := Lib.hid hy
        clear hx hy hwx hwy
        have hltI : decide ((k : Int) < (n1 : Int)) = true := by simpa using hlt
        by_cases hxy : y < x
        all_goals
          go_wp2
          go_region_held3 (fun w' => w.heap.size ≤ w'.heap.size ∧ ∀ b o, b < w.heap.size → w'.cell? ⟨b, o, none⟩ = wr.cell? ⟨b, o, none⟩)
            (first | exact ⟨hle, fun _ _ _ => rfl⟩ | exact sKeep (by assumption) ((E.refl _).alloc _) | exact sKeepB (by assumption) (by assumption))
            ((refine step_app1 intT (by rfl) _ _ (by rfl) w.heap.size _ _ _ _ (by rfl) (hown.e (by first | exact ((E.refl _).alloc _).drewN _ | exact ((E.refl _).alloc _).drew)) _ _ (by rfl) (cell_new _ _ _) (wf_of_i64 (by omega) (by omega)) (by omega) (by simp; omega) ?_; intro g' c2 w1 hO hG hB))
          rename_i hHeld
          clear hHeld
          have hB2 : Below w.heap.size wr w1 := ((Below.refl _ _).alloc hle _).trans ⟨hB.os, hB.tape, hB.output, hB.size, hB.block⟩
          go_wp2
          go_roundw
          case rel => exact ⟨k + 1, c2, _, _, by omega, by go_num, rfl, hO, hE.up hB2, show _ = _ by rw [← hs.out, comb_ok HX.out HY.out rfl]; congr 3; omega⟩
          case measure => simp [intOf]; omega
      · have hltI : decide ((k : Int) < (n1 : Int)) = false := by simpa using hlt
        have HF := Lib.hid (show joinS l1 l2 = out by have := hs.out; rw [drop_end h1.len (by omega), comb_end] at this; injection this with this; exact this.symm)
        go_wp2
        go_ret
        exact RetOwn.mk_ HF.out hown hE

set_option maxHeartbeats 2000000 in
set_option maxRecDepth 100000 in
theorem refMeet_c (A1 A2 : Option Addr) (n1 c1 n2 c2 : Nat) (l1 l2 : List Int) (w : World) (h1 : Nums .i64 w A1 n1 c1 l1) (h2 : Nums .i64 w A2 n2 c2 l2) :
    Calls Try.prog 38 #[.slice A1 n1 c1, .slice A2 n2 c2] w (RetOwn .i64 3 w (meetS l1 l2)) := by
  have m1 := h1.n63
  cases hf : fitB l1 l2
  · have HT := Lib.hid (show meetS l1 l2 = [] by rw [meetS, hf]; rfl)
    go_enter Try.func38, Try.ntmps38
    go_wp2_with (go_at_call 54; refine (fit_c _ _ _ _ _ _ _ _ _ h1 h2).mono ?_; rintro e w' ⟨rfl, rfl⟩)
    refine wp_loop_rounds 1 ?_; rw [rounds_succ]
    by_cases h0 : (0 : Int) < (n1 : Int)
    · have hd : decide ((0 : Int) < (n1 : Int)) = true := by simpa using h0
      go_wp2
      go_ret
      exact RetOwn.mk_ HT.out (Own.nil _ _ _ _) (E.refl _)
    · have hd : decide ((0 : Int) < (n1 : Int)) = false := by simpa using h0
      go_wp2
      go_ret
      exact RetOwn.mk_ HT.out (Own.nil _ _ _ _) (E.refl _)
  · have hn : n1 = n2 := by have := fit_len hf; have := h1.len; have := h2.len; omega
    subst hn
    have HT := Lib.hid (show (meetS l1 l2, 0) = pre [] (combF (fun x y => (min x y, 0)) l1 l2) by
      rw [meetS, hf, pre_nil, combF_ok (g := fun x y => min x y) (ok := fun _ _ => True) (fun _ _ _ => rfl) (fit_len hf) (fun _ _ _ _ _ => trivial)]; rfl)
    have HB1 := Lib.hid (fit_a hf)
    have HB2 := Lib.hid (fit_b hf)
    have hn64 : n1 ≤ 64 := by have := isBag_len (fit_a hf); rw [h1.len] at this; exact this
    go_enter Try.func38, Try.ntmps38
    go_wp2_with (go_at_call 54; refine (fit_c _ _ _ _ _ _ _ _ _ h1 h2).mono ?_; rintro e w' ⟨rfl, rfl⟩)
    go_loopw [5, 7] (fun t i wr => ∃ (k c' : Nat) (A' : Option Addr) (out : List Int), k ≤ n1 ∧ i = .int .i64 k ∧ t = .slice A' k c' ∧ Own .i64 3 wr w.heap.size A' k c' out ∧ E w wr ∧ Hid (pre out (combF (fun x y => (min x y, 0)) (l1.drop k) (l2.drop k)) = (meetS l1 l2, 0))) (fun _ i _ => n1 - (intOf i).toNat)
    case atStart => exact ⟨0, 0, none, [], Nat.zero_le _, rfl, rfl, Own.nil _ _ _ _, E.refl _, HT.out.symm⟩
    case round =>
      obtain ⟨k, c', A', out, hk, rfl, rfl, hown, hE, hs⟩ := hrel
      have hle := hE.le
      by_cases hlt : k < n1
      · obtain ⟨b1, o1, x, rfl, hb1, hx, hwx, hc1⟩ := h1.get hlt
        replace hc1 := (hE.cell (p := ⟨b1, _, none⟩) hb1).trans hc1
        obtain ⟨b2, o2, y, rfl, hb2, hy, hwy, hc2⟩ := h2.get hlt
        replace hc2 := (hE.cell (p := ⟨b2, _, none⟩) hb2).trans hc2
        obtain ⟨x0, x1⟩ := isBag_get HB1.out hx
        obtain ⟨y0, y1⟩ := isBag_get HB2.out hy
        have HX := Lib.hid hx
        have HY := Lib.hid hy
        clear hx hy hwx hwy
        have hltI : decide ((k : Int) < (n1 : Int)) = true := by simpa using hlt
        by_cases hxy : y < x
        all_goals
          go_wp2
          go_region_held3 (fun w' => w.heap.size ≤ w'.heap.size ∧ ∀ b o, b < w.heap.size → w'.cell? ⟨b, o, none⟩ = wr.cell? ⟨b, o, none⟩)
            (first | exact ⟨hle, fun _ _ _ => rfl⟩ | exact sKeep (by assumption) ((E.refl _).alloc _) | exact sKeepB (by assumption) (by assumption))
            ((refine step_app1 intT (by rfl) _ _ (by rfl) w.heap.size _ _ _ _ (by rfl) (hown.e (by first | exact ((E.refl _).alloc _).drewN _ | exact ((E.refl _).alloc _).drew)) _ _ (by rfl) (cell_new _ _ _) (wf_of_i64 (by omega) (by omega)) (by omega) (by simp; omega) ?_; intro g' c2 w1 hO hG hB))
          rename_i hHeld
          clear hHeld
          have hB2 : Below w.heap.size wr w1 := ((Below.refl _ _).alloc hle _).trans ⟨hB.os, hB.tape, hB.output, hB.size, hB.block⟩
          go_wp2
          go_roundw
          case rel => exact ⟨k + 1, c2, _, _, by omega, by go_num, rfl, hO, hE.up hB2, show _ = _ by rw [← hs.out, comb_ok HX.out HY.out rfl]; congr 3; omega⟩
          case measure => simp [intOf]; omega
      · have hltI : decide ((k : Int) < (n1 : Int)) = false := by simpa using hlt
        have HF := Lib.hid (show meetS l1 l2 = out by have := hs.out; rw [drop_end h1.len (by omega), comb_end] at this; injection this with this; exact this.symm)
        go_wp2
        go_ret
        exact RetOwn.mk_ HF.out hown hE
end Go.Proofs.Ytbpfdogjjoceaaa
