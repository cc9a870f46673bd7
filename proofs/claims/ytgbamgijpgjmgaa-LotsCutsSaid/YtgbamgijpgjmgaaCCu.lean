/- Lemmas of the claim, joined: LawCu. No condition. -/
import Derived.Test.YtgbamgijpgjmgaaBL
import Derived.Test.YtgbamgijpgjmgaaBP
import Derived.Test.YtgbamgijpgjmgaaBO
/- LotsCuts. -/
namespace Go.Proofs.Ytgbamgijpgjmgaa
open Go.RowKit Go.Shelf

theorem slice_of {l : List Lt} {a n : Int} {r : List Lt × Int} (h : sliceS l a n = r) (A : Option Addr) (m c : Nat) (w : World) (h1 : LotsAt w A m c l) (a1 : -9223372036854775808 ≤ a) (a2 : a ≤ 9223372036854775807) (n1 : -9223372036854775808 ≤ n) (n2 : n ≤ 9223372036854775807) : Calls Try.prog 20 #[.slice A m c, .int .i64 a, .int .i64 n] w (RetLE w r) := by
  subst h
  exact slice_c a n A m c l w h1 a1 a2 n1 n2
theorem total_of3 {l : List Lt} {t : Int} (h : totalS l = t) (A : Option Addr) (n c : Nat) (w : World) (h1 : LotsAt w A n c l) : Calls Try.prog 24 #[.slice A n c] w (RetN w t) := by
  rw [← h]
  exact total_c A n c l w h1
theorem puts_take3 {two one : List Lt} {i : Nat} {x : Lt} (h : two[i]? = some x) : putS ((two.take i).foldl putS one) x = (two.take (i + 1)).foldl putS one := by rw [List.take_add_one, h, List.foldl_append]; rfl
theorem nums3 {W : World} {f a n : Int} (hw : WfL (f, a, n)) : Nums .i64 (W.alloc (.cells #[.int .i64 f, .int .i64 a, .int .i64 n] 3)) (some ⟨W.heap.size, 0, none⟩) 3 3 [f, a, n] :=
  ⟨rfl, Nat.le_refl _, by unfold maxLen; omega, by intro y hy; simp at hy; rcases hy with rfl | rfl | rfl; exact hw.1; exact hw.2.1; exact hw.2.2, fun _ => ⟨W.heap.size, 0, rfl, by simp, fun i hi => by
    have hb := heap_alloc_new W (.cells #[.int .i64 f, .int .i64 a, .int .i64 n] 3)
    match i, hi with
    | 0, _ => exact cell_of_row _ _ 0 _ _ _ hb
    | 1, _ => exact cell_of_row _ _ 1 _ _ _ hb
    | 2, _ => exact cell_of_row _ _ 2 _ _ _ hb⟩⟩
theorem nums3h {W : World} {B : Nat} {f a n : Int} (hw : WfL (f, a, n)) (hb : W.heap[B]? = some (.cells #[.int .i64 f, .int .i64 a, .int .i64 n] 3 (0, 0))) : Nums .i64 W (some ⟨B, 0, none⟩) 3 3 [f, a, n] :=
  ⟨rfl, Nat.le_refl _, by unfold maxLen; omega, by intro y hy; simp at hy; rcases hy with rfl | rfl | rfl; exact hw.1; exact hw.2.1; exact hw.2.2, fun _ => ⟨B, 0, rfl, lt_blk hb, fun i hi => by
    match i, hi with
    | 0, _ => exact cell_of_row _ _ 0 _ _ _ hb
    | 1, _ => exact cell_of_row _ _ 1 _ _ _ hb
    | 2, _ => exact cell_of_row _ _ 2 _ _ _ hb⟩⟩
set_option maxHeartbeats 1000000 in
theorem wInts_k (g base : Nat) (A : Option Addr) (n c : Nat) (l l0 : List Int) (w : World) (hW : Wr w base g l0) (hN : ∀ w', Keep base g w w' → Nums .i64 w' A n c l) (hn : n ≤ 1000000) (hl0 : l0.length ≤ 1000000) (hbw : base ≤ w.heap.size) :
    Calls Try.prog 42 #[.pointer (some ⟨g, 0, none⟩), .slice A n c] w (RetW w base g (l0 ++ encI l)) := by
  have hlen : l.length = n := (hN w (Keep.refl _ _ _)).len
  have HL := Lib.hid hlen
  clear hlen
  go_enter Try.func42, Try.ntmps42
  go_wp2_with fail
  refine (wUint_c n _ base _ _ hW (by omega) (by omega) hbw).mono ?_
  rintro e w1 ⟨rfl, hW1, hK1⟩
  go_wp2_with fail
  go_loopw [13] (fun ti wr => ∃ (k : Nat) (l' : List Int), k ≤ n ∧ ti = .int .i64 k ∧ Wr wr base g l' ∧ Keep base g w wr ∧ l'.length ≤ 1000010 + 10 * k ∧ Hid (l' ++ intsB (l.drop k) = l0 ++ encI l)) (fun ti _ => n - (intOf ti).toNat)
  case atStart => exact ⟨0, _, Nat.zero_le _, rfl, hW1, hK1, by have := uv_len10 (n := n) (by omega); simp only [List.length_append]; omega, show _ = _ by rw [encI, HL.out, List.append_assoc]; rfl⟩
  case round =>
    clear hW1 hK1
    obtain ⟨k, l', hk, rfl, hW', hK', hl', hs⟩ := hrel
    have hNw := hN wr hK'
    have hbr : base ≤ wr.heap.size := Nat.le_trans hbw hK'.1.size
    by_cases hkn : (k : Int) < (n : Int)
    · obtain ⟨b, o, x, rfl, hbl, hx, hwx, hcx⟩ := hNw.get (i := k) (by omega)
      obtain ⟨x1, x2⟩ := wf_i64 hwx
      have HD := Lib.hid (drop_at hx)
      have hl2 := len_app_le hl' x1 x2
      clear hNw hx
      go_wp2_with (go_at_call 68; refine (wInt_c x _ base _ _ hW' x1 x2 (by omega) hbr).mono ?_; rintro e w2 ⟨rfl, hW2, hK2⟩)
      go_roundw
      case rel => exact ⟨k + 1, _, by omega, by go_num, hW2, hK'.trans hK2, by omega, show _ = _ by rw [← hs.out, HD.out]; simp [intsB]⟩
      case measure => simp [intOf]; omega
    · have HE := Lib.hid (show l' = l0 ++ encI l by rw [← hs.out, List.drop_eq_nil_of_le (by rw [HL.out]; omega)]; simp [intsB])
      clear hNw
      go_wp2_with fail
      go_end0
      exact ⟨rfl, by rw [← HE.out]; exact hW', hK'⟩
theorem keep_nums3 {base g : Nat} {W w' : World} {f a n : Int} (hw : WfL (f, a, n)) (hg : g < W.heap.size) (h : Keep base g (W.alloc (.cells #[.int .i64 f, .int .i64 a, .int .i64 n] 3)) w') : Nums .i64 w' (some ⟨W.heap.size, 0, none⟩) 3 3 [f, a, n] := by
  have hb := heap_alloc_new W (.cells #[.int .i64 f, .int .i64 a, .int .i64 n] 3)
  refine nums3h hw ((h.2 W.heap.size (by simp) (by omega) (fun cs fr hh => ?_)).trans hb)
  rw [hb] at hh
  injection hh with hh
  injection hh with h1 h2
  exact absurd h2 (by decide)
theorem sumLot (A : Option Addr) (m c : Nat) (l : List Int) (w : World) (h : Nums .i64 w A m c l) : Calls Try.prog 46 #[.string { data := #[108, 111, 116] }, .slice A m c] w fun e W' => e = .returned (.int .u64 (sumS { data := #[108, 111, 116] } l)) ∧ E w W' := sum_c _ (by decide) A m c l w h
theorem LotsAt.below {w w' : World} {base : Nat} {A : Option Addr} {n c : Nat} {l : List Lt} (h : LotsAt w A n c l) (hb : Below base w w') (hA : ∀ b, ob A = some b → b < base) : LotsAt w' A n c l :=
  ⟨h.len, h.cap, h.mx, h.wf, fun hn => by
    obtain ⟨b, o, h1, h2, h3⟩ := h.at_ hn
    have hx := hA b (by rw [h1]; rfl)
    refine ⟨b, o, h1, Nat.lt_of_lt_of_le h2 hb.size, fun i x hi => ?_⟩
    obtain ⟨c1, c2, c3⟩ := h3 i x hi
    exact ⟨(hb.cell (p := ⟨b, _, none⟩) hx).trans c1, (hb.cell (p := ⟨b, _, none⟩) hx).trans c2, (hb.cell (p := ⟨b, _, none⟩) hx).trans c3⟩⟩
set_option maxHeartbeats 16000000 in
set_option maxRecDepth 100000 in
theorem lotsCuts_w (m1 m2 m3 : Int) (Aa : Option Addr) (na ca : Nat) (la : List Int) (w : World) (ha : Nums .i64 w Aa na ca la) (x1 : -9223372036854775808 ≤ m1) (x2 : m1 ≤ 9223372036854775807) (y1 : -9223372036854775808 ≤ m2) (y2 : m2 ≤ 9223372036854775807) (z1 : -9223372036854775808 ≤ m3) (z2 : m3 ≤ 9223372036854775807) :
    Calls Try.prog 11 #[.slice Aa na ca, .int .i64 m1, .int .i64 m2, .int .i64 m3] w fun e w' => e = .returned (.bool true) ∧ E w w' := by
  have HG1 := Lib.hid (lots14_c 0 Aa na ca la w ha (by omega))
  clear ha
  go_enter Try.func11, Try.ntmps11
  go_wp2_with fail
  refine HG1.out.mono ?_
  rintro e w1 ⟨q, hlq, hgq, A0, n0, c0, rfl, hO0, hE0⟩
  have hR0 := hO0.reads
  have hq0 : q.length = n0 := hO0.1
  have hvq := genL_valid hgq hlq
  have hpq := (validB_iff.1 hvq).2
  have hn0 : n0 ≤ 7 := by omega
  have hm63 := hR0.n63
  clear hO0 HG1 hgq hlq
  go_wp2_with fail
  go_loopw [9, 11] (fun t6 ti wr => ∃ (k n6 c6 : Nat) (A6 : Option Addr), k ≤ n0 ∧ ti = .int .i64 k ∧ t6 = .slice A6 n6 c6 ∧ LotsAt wr A6 n6 c6 ((q.take k).foldl putS []) ∧ E w1 wr) (fun _ ti _ => n0 - (intOf ti).toNat)
  case atStart => exact ⟨0, 0, 0, none, by omega, rfl, rfl, LotsAt.nil _ _ _ (Nat.zero_le _), E.refl _⟩
  case round =>
    obtain ⟨k, n6, c6, A6, hk, rfl, rfl, hR, hE⟩ := hrel
    by_cases hlt : k < n0
    · obtain ⟨b, o, y, rfl, hb, hy, hwy, d0, d1, d2⟩ := (hR0.e hE).get hlt
      have hkI : (k : Int) < (n0 : Int) := by omega
      have HP := Lib.hid (lPut_c y A6 n6 c6 _ wr hR hwy)
      rw [puts_take3 hy] at HP
      obtain ⟨yf, ya, yn⟩ := y
      simp only at d0 d1 d2
      unfold ltV at HP
      clear hy hR
      go_wp2_with fail
      refine HP.out.mono ?_
      rintro e w2 ⟨A7, n7, c7, rfl, hO7, hE7⟩
      go_wp2_with fail
      go_roundw
      case rel => exact ⟨k + 1, n7, c7, A7, by omega, by go_num, rfl, hO7.reads, hE.trans hE7⟩
      case measure => simp [intOf]; omega
    · obtain rfl : k = n0 := by omega
      rw [List.take_of_length_le (by omega)] at hR
      obtain ⟨pe, pv⟩ := puts_eq (l := q) (s := []) rfl hpq (by simp; omega)
      have pg := putN_eq (l := q) (fun x hx => by have := possB_iff.1 (hpq x hx); omega)
      have pl := putL_len q []
      rw [pe] at hR
      have hsg : putL [] q = glue (U (putL [] q)) := by rw [pg, U_glue]
      obtain ⟨s, hs⟩ : ∃ s, putL [] q = s := ⟨_, rfl⟩
      rw [hs] at hR pv pl hsg
      have hl7 : s.length ≤ 7 := by simp at pl; omega
      have hvs : validB s = true := pv
      have Rs := hR
      replace hE0 := hE0.trans hE
      have htot := tot_valid hvs
      have htL : totalS s = totL s := by rw [totalS, hvs]; rfl
      have htr := tot_range (l := s)
      obtain ⟨T, hT⟩ : ∃ T, totalS s = T := ⟨_, rfl⟩
      rw [hT] at htot htL htr
      have HT := Lib.hid (fun W (h : LotsAt W A6 n6 c6 s) => total_of3 hT A6 n6 c6 W h)
      clear pe pv pg pl hs hR hE hR0 hvq hpq hq0 hn0
      have hwT : IntKind.i64.wrap (T + 1) = T + 1 := by rw [IntKind.wrap_i64]; omega
      have HA := Lib.hid (fun W => aroundR m1 (T + 1) W x1 x2 (by omega) (by omega))
      have k0 := Int.emod_nonneg m1 (show T + 1 ≠ 0 by omega)
      have k1 := Int.emod_lt_of_pos m1 (show 0 < T + 1 by omega)
      generalize m1 % (T + 1) = kk at *
      have hwk : IntKind.i64.wrap (T - kk) = T - kk := by rw [IntKind.wrap_i64]; omega
      have hwk1 : IntKind.i64.wrap (T - kk + 1) = T - kk + 1 := by rw [IntKind.wrap_i64]; omega
      have HF := Lib.hid (fun W => aroundR m2 (T - kk + 1) W y1 y2 (by omega) (by omega))
      have f0 := Int.emod_nonneg m2 (show T - kk + 1 ≠ 0 by omega)
      have f1 := Int.emod_lt_of_pos m2 (show 0 < T - kk + 1 by omega)
      generalize m2 % (T - kk + 1) = fr at *
      have hwf : IntKind.i64.wrap (T - kk - fr) = T - kk - fr := by rw [IntKind.wrap_i64]; omega
      have hwf1 : IntKind.i64.wrap (T - kk - fr + 1) = T - kk - fr + 1 := by rw [IntKind.wrap_i64]; omega
      have hwkf : IntKind.i64.wrap (kk + fr) = kk + fr := by rw [IntKind.wrap_i64]; omega
      have HM := Lib.hid (fun W => aroundR m3 (T - kk - fr + 1) W z1 z2 (by omega) (by omega))
      have g0 := Int.emod_nonneg m3 (show T - kk - fr + 1 ≠ 0 by omega)
      have g1 := Int.emod_lt_of_pos m3 (show 0 < T - kk - fr + 1 by omega)
      generalize m3 % (T - kk - fr + 1) = mn at *
      have hus : (U s).length = T.toNat := by omega
      have e1 : sliceS s 0 kk = (glue ((U s).take kk.toNat), 0) := by
        rw [sliceS_yes hvs (by omega) k0 (by omega) (by omega)]; rfl
      have e2 : sliceS s kk (T - kk) = (glue ((U s).drop kk.toNat), 0) := by
        rw [sliceS_yes hvs k0 (by omega) (by omega) (by omega), List.take_of_length_le (by rw [List.length_drop]; omega)]
      have v1 := sub_valid hvs 0 kk.toNat
      rw [List.drop_zero] at v1
      have v2 := sub_valid hvs kk.toNat (T - kk).toNat
      rw [List.take_of_length_le (by rw [List.length_drop]; omega)] at v2
      have hbt : totL (glue ((U s).drop kk.toNat)) = T - kk := by
        have := tot_valid v2.1
        rw [totalS, v2.1, U_glue, List.length_drop] at this
        simp only [if_true] at this
        omega
      have e3 : sliceS (glue ((U s).drop kk.toNat)) fr mn = (glue (((U s).drop (kk + fr).toNat).take mn.toNat), 0) := by
        rw [sliceS_yes v2.1 f0 g0 (by omega) (by omega), U_glue, List.drop_drop, show kk.toNat + fr.toNat = (kk + fr).toNat by omega]
      have e4 : sliceS s (kk + fr) mn = (glue (((U s).drop (kk + fr).toNat).take mn.toNat), 0) := sliceS_yes hvs (by omega) g0 (by omega) (by omega)
      have v3 := sub_valid hvs (kk + fr).toNat mn.toNat
      have hpu := puts_eq (l := glue ((U s).drop kk.toNat)) v1.1 (validB_iff.1 v2.1).2 (by omega)
      have hsum : (glue ((U s).drop kk.toNat)).foldl putS (glue ((U s).take kk.toNat)) = s := by
        rw [hpu.1, put_glue (fun x hx => by have := possB_iff.1 ((validB_iff.1 v2.1).2 x hx); omega), U_glue, List.take_append_drop]
        exact hsg.symm
      have HSl := Lib.hid (And.intro e1 (And.intro e2 (And.intro e3 e4)))
      have HSum := Lib.hid hsum
      have hc7 : (glue (((U s).drop (kk + fr).toNat).take mn.toNat)).length ≤ 7 := by omega
      have HC7 := Lib.hid hc7
      have HVc := Lib.hid v3.1
      have HRg := Lib.hid (And.intro (And.intro k0 k1) (And.intro (And.intro f0 f1) (And.intro (And.intro g0 g1) htr)))
      clear e1 e2 e3 e4 v1 v2 v3 hbt hpu hsum hsg hus htot htL hvs hl7 hT hc7
      go_wp2_with fail
      refine (HT.out _ Rs).mono ?_
      rintro e w3 ⟨rfl, hEv⟩
      replace Rs := Rs.e hEv
      replace hE0 := hE0.trans hEv
      clear hEv
      go_wp2_with fail
      refine (HA.out _).mono ?_
      rintro e w4 ⟨rfl, rfl⟩
      go_wp2_with fail
      refine (slice_of HSl.out.1 A6 n6 c6 _ Rs (by omega) (by omega) (by omega) (by omega)).mono ?_
      rintro e v1 ⟨Aa, na, ca, rfl, hOa, hEv⟩
      have Ra := hOa.reads
      (try dsimp only at Ra)
      clear hOa
      replace Rs := Rs.e hEv
      replace hE0 := hE0.trans hEv
      clear hEv
      go_wp2_with fail
      refine (slice_of HSl.out.2.1 A6 n6 c6 _ Rs (by omega) (by omega) (by omega) (by omega)).mono ?_
      rintro e v2 ⟨Ab, nb, cb, rfl, hOb, hEv⟩
      have Rb := hOb.reads
      (try dsimp only at Rb)
      clear hOb
      replace Rs := Rs.e hEv
      replace Ra := Ra.e hEv
      replace hE0 := hE0.trans hEv
      clear hEv
      have hbl := Rb.len
      have hm63 := Rb.n63
      have HX := Lib.hid (And.intro Rs Rb)
      have HXa := Lib.hid Ra
      have HE0 := Lib.hid hE0
      have HEnd := Lib.hid (show ((glue ((U s).drop kk.toNat)).take nb).foldl putS (glue ((U s).take kk.toNat)) = s by rw [List.take_of_length_le (l := glue ((U s).drop kk.toNat)) (by omega)]; exact HSum.out)
      clear hbl Rs Ra Rb hE0
      go_wp2_with fail
      go_loopw [18, 19] (fun t5 ti wr => ∃ (i n5 c5 : Nat) (A5 : Option Addr), i ≤ nb ∧ ti = .int .i64 i ∧ t5 = .slice A5 n5 c5 ∧ LotsAt wr A5 n5 c5 (((glue ((U s).drop kk.toNat)).take i).foldl putS (glue ((U s).take kk.toNat))) ∧ E v2 wr) (fun _ ti _ => nb - (intOf ti).toNat)
      case atStart => exact ⟨0, _, _, _, by omega, rfl, rfl, HXa.out, E.refl _⟩
      case round =>
        obtain ⟨i, n5, c5, A5, hi, rfl, rfl, hR, hE⟩ := hrel
        by_cases hlt : i < nb
        · obtain ⟨bz, oz, x, rfl, hb, hx, hwx, d0, d1, d2⟩ := (HX.out.2.e hE).get hlt
          have hiI : (i : Int) < (nb : Int) := by omega
          have HP := Lib.hid (lPut_c x A5 n5 c5 _ wr hR hwx)
          rw [puts_take3 hx] at HP
          obtain ⟨xf, xa, xn⟩ := x
          simp only at d0 d1 d2
          unfold ltV at HP
          clear hx hR
          go_wp2_with fail
          refine HP.out.mono ?_
          rintro e w8 ⟨A7, n7, c7, rfl, hO7, hE7⟩
          go_wp2_with fail
          go_roundw
          case rel => exact ⟨i + 1, n7, c7, A7, by omega, by go_num, rfl, hO7.reads, hE.trans hE7⟩
          case measure => simp [intOf]; omega
        · have hin : i = nb := by omega
          subst hin
          rw [HEnd.out] at hR
          have Rs := HX.out.1.e hE
          have Rb := HX.out.2.e hE
          have hE0 := HE0.out.trans hE
          clear hE
          go_wp2_with fail
          refine (HF.out _).mono ?_
          rintro e w5 ⟨rfl, rfl⟩
          go_wp2_with fail
          refine (HM.out _).mono ?_
          rintro e w6 ⟨rfl, rfl⟩
          go_wp2_with fail
          refine (slice_of HSl.out.2.2.1 Ab i cb _ Rb (by omega) (by omega) (by omega) (by omega)).mono ?_
          rintro e v3 ⟨Ac, nc, cc, rfl, hOc, hEv⟩
          have Rc := hOc.reads
          (try dsimp only at Rc)
          clear hOc
          replace Rs := Rs.e hEv
          replace Rb := Rb.e hEv
          replace hR := hR.e hEv
          replace hE0 := hE0.trans hEv
          clear hEv
          go_wp2_with fail
          refine (slice_of HSl.out.2.2.2 A6 n6 c6 _ Rs (by omega) (by omega) (by omega) (by omega)).mono ?_
          rintro e v4 ⟨AD, nD, cD, rfl, hOD, hEv⟩
          have RD := hOD.reads
          (try dsimp only at RD)
          clear hOD
          replace Rs := Rs.e hEv
          replace Rb := Rb.e hEv
          replace hR := hR.e hEv
          replace Rc := Rc.e hEv
          replace hE0 := hE0.trans hEv
          clear hEv
          have hcl := Rc.len
          have hDl := RD.len
          generalize hcc : glue (((U s).drop (kk + fr).toNat).take mn.toNat) = cs at *
          have hnc : nc ≤ 7 := by have := HC7.out; omega
          have hnd : nD = nc := by omega
          subst hnd
          clear hcc hcl hDl HEnd HXa HSl HSum
          have hW0 := Wr.new v4
          have hEW : E v4 (v4.alloc (.cells #[.slice none 0 0] 54)) := (E.refl _).alloc _
          obtain ⟨u0, hu0⟩ : ∃ u0, v4.alloc (.cells #[.slice none 0 0] 54) = u0 := ⟨_, rfl⟩
          rw [hu0] at hW0 hEW
          have HU0 := Lib.hid hu0
          have HE0' := Lib.hid hE0
          have HLv := Lib.hid (And.intro hR (And.intro Rs (And.intro Rc RD)))
          have hWF := Rc.wf
          have HWF := Lib.hid hWF
          have hm63c := Rc.n63
          clear hu0 hE0 hR Rs RD Rb hWF
          go_upto_region 23 with fail
          rw [HU0.out]
          clear HU0
          go_wp2_with fail
          go_loopw [27] (fun ti wr => ∃ i : Nat, i ≤ nD ∧ ti = .int .i64 i ∧ Wr wr v4.heap.size v4.heap.size (encLs (cs.take i)) ∧ E v4 wr ∧ v4.heap.size < wr.heap.size) (fun ti _ => nD - (intOf ti).toNat)
          case atStart => exact ⟨0, by omega, rfl, hW0, hEW, by obtain ⟨_, _, _, _, h, _⟩ := hW0; exact lt_blk h⟩
          case round =>
            clear hW0 hEW
            obtain ⟨i2, hi2, rfl, hW, hE, hlt0⟩ := hrel
            by_cases hlt : i2 < nD
            · obtain ⟨bz, oz, x, rfl, hb4, hx, hwx, b0, b1, b2⟩ := Rc.get hlt
              have hiI : (i2 : Int) < (nD : Int) := by omega
              have hi0 : (0 : Int) ≤ (i2 : Int) := by omega
              have d0 := (hE.cell (p := ⟨bz, _, none⟩) hb4).trans b0
              have d1 := (hE.cell (p := ⟨bz, _, none⟩) hb4).trans b1
              have d2 := (hE.cell (p := ⟨bz, _, none⟩) hb4).trans b2
              have HEn := Lib.hid (encLs_take hx)
              have hbr := Nat.lt_of_lt_of_le hb4 hE.le
              have hlen : (encLs (cs.take i2)).length ≤ 1000000 := by
                have h1 := encLs_len (l := cs.take i2) (fun y hy => HWF.out y (List.mem_of_mem_take hy))
                have h2 : (cs.take i2).length ≤ i2 := List.length_take_le _ _
                omega
              obtain ⟨xf, xa, xn⟩ := x
              simp only at d0 d1 d2 HEn
              have HWI := Lib.hid (fun (W : World) (hWE : E wr W) (hsz : v4.heap.size < W.heap.size) => wInts_k v4.heap.size v4.heap.size (some ⟨W.heap.size, 0, none⟩) 3 3 [xf, xa, xn] (encLs (cs.take i2)) (W.alloc (.cells #[.int .i64 xf, .int .i64 xa, .int .i64 xn] 3)) (hW.e (hWE.alloc _)) (fun w' hk => keep_nums3 hwx hsz hk) (by omega) hlen (by rw [World.size_alloc]; omega))
              have hle := hE.le
              have HE := Lib.hid hE
              clear hx b0 b1 b2 hW hE
              go_upto_region 26 with fail
              go_region_held3 (fun w' => v4.heap.size ≤ w'.heap.size ∧ ∀ b o, b < v4.heap.size → w'.cell? ⟨b, o, none⟩ = wr.cell? ⟨b, o, none⟩)
                (first | exact ⟨hle, fun _ _ _ => rfl⟩ | exact sKeepK (by assumption) ((E.refl _).alloc _) | exact sKeepB (by assumption) hBk)
                (first | (go_at_call 42; refine (HWI.out wr.drew ((E.refl wr).drew) hlt0).mono ?_; rintro e wn ⟨rfl, hWn, hKn⟩; have hBk := hKn.1))
              rename_i hHd
              clear hHd
              rw [HEn.out] at hWn
              have hEn : E v4 wn := (((HE.out.drew).alloc _).up hBk)
              have hsn : v4.heap.size < wn.heap.size := by
                have := hBk.size
                rw [World.size_alloc] at this
                have h2 : wr.drew.heap.size = wr.heap.size := rfl
                omega
              clear hKn hBk
              go_wp2_with fail
              go_roundw
              case rel => exact ⟨i2 + 1, by omega, by go_num, hWn, hEn, hsn⟩
              case measure => simp [intOf]; omega
            · have hin : i2 = nD := by omega
              have hcl := Rc.len
              rw [List.take_of_length_le (by omega)] at hW
              have hlen : (encLs cs).length ≤ 280 := by
                have h1 := encLs_len (l := cs) (fun y hy => HWF.out y hy)
                omega
              have HLv2 := Lib.hid (And.intro (HLv.out.1.e hE) (And.intro (HLv.out.2.1.e hE) (And.intro (HLv.out.2.2.1.e hE) (HLv.out.2.2.2.e hE))))
              have HE2 := Lib.hid (HE0'.out.trans hE)
              clear hE HLv HE0' Rc
              go_wp2_with fail
              refine (wDone_c _ _ _ _ hW (by omega)).mono ?_
              rintro e w8 ⟨A8, n8, c8, rfl, hO8, hE8⟩
              have hn8 := hO8.1
              go_wp2_with fail
              refine (read_c _ _ _ _ _ hO8.reads (by omega)).mono ?_
              rintro e w9 ⟨gr, rfl, hRd, hgr, hE9⟩
              have hE89 := hE8.trans hE9
              have hcs : ∀ A n c l, LotsAt wr A n c l → LotsAt w9 A n c l := fun A n c l h => h.e hE89
              have Rsum := hcs _ _ _ _ HLv2.out.1
              have Rs := hcs _ _ _ _ HLv2.out.2.1
              have Rc := hcs _ _ _ _ HLv2.out.2.2.1
              have RD := hcs _ _ _ _ HLv2.out.2.2.2
              have HE3 := Lib.hid (HE2.out.trans hE89)
              have HOb := Lib.hid (fun A n c l (h : LotsAt wr A n c l) (h0 : 0 < n) b (hb : ob A = some b) => (show b < gr from by have := h.obl h0 b hb; have := hE8.le; omega))
              have HSame := Lib.hid (same_self _ _ _ _ _ _ _ _ Rc RD)
              have hE8s : wr.heap.size ≤ gr := by have := hE8.le; omega
              clear hcs hO8 hn8 hE8 hE9 hE89 hW hcl
              go_wp2_with fail
              refine HSame.out.mono ?_
              rintro e w10 ⟨rfl, hE10⟩
              have hRd := hRd.below hE10 hRd.lt
              replace Rsum := Rsum.e hE10
              replace Rs := Rs.e hE10
              replace RD := RD.e hE10
              have HE4 := Lib.hid (HE3.out.trans hE10)
              have hgl := hRd.lt
              clear hE10 Rc HSame
              have HGr := Lib.hid (show w.heap.size ≤ gr by have := HE2.out.le; have := hE8s; omega)
              have HRD := Lib.hid RD
              have HRS := Lib.hid (And.intro Rsum Rs)
              have HOD := Lib.hid (fun h0 b hb => HOb.out AD nD cD cs HLv2.out.2.2.2 h0 b hb)
              have HOS := Lib.hid (And.intro (fun h0 b hb => HOb.out _ _ _ _ HLv2.out.1 h0 b hb) (fun h0 b hb => HOb.out _ _ _ _ HLv2.out.2.1 h0 b hb))
              have hDD := RD.len
              have hR0 : Proofs.Ytgbamgijpgjmgaa.Rd w10 gr (encLs (cs.drop 0)) 0 := by rw [List.drop_zero]; exact hRd
              clear hRd Rsum Rs RD
              go_wp2_with fail
              go_loopw [29] (fun ti wr => ∃ i : Nat, i ≤ nD ∧ ti = .int .i64 i ∧ Proofs.Ytgbamgijpgjmgaa.Rd wr gr (encLs (cs.drop i)) 0 ∧ Ex (fun j => j = gr) w10 wr) (fun ti _ => nD - (intOf ti).toNat)
              case atStart => exact ⟨0, by omega, rfl, hR0, Ex.refl _ _⟩
              case round =>
                clear hR0
                obtain ⟨i3, hi3, rfl, hR, hX⟩ := hrel
                by_cases hlt3 : i3 < nD
                · obtain ⟨bz, oz, x, rfl, hbz, hx, hwx, b0, b1, b2⟩ := HRD.out.get hlt3
                  have hiI : (i3 : Int) < (nD : Int) := by omega
                  have hi0 : (0 : Int) ≤ (i3 : Int) := by omega
                  have hbg : bz < gr := HOD.out (by omega) bz rfl
                  rw [encLs_drop hx] at hR
                  obtain ⟨xf, xa, xn⟩ := x
                  simp only at b0 b1 b2 hR
                  have HI := Lib.hid (rInts_c gr [xf, xa, xn] (encLs (cs.drop (i3 + 1))) wr hR (by intro y hy; simp at hy; rcases hy with rfl | rfl | rfl; exact hwx.1; exact hwx.2.1; exact hwx.2.2) (by simp))
                  clear hx hR
                  go_wp2_with fail
                  refine HI.out.mono ?_
                  rintro e wa ⟨A3, n3, c3, rfl, hO3, hR3, hG3⟩
                  obtain rfl : n3 = 3 := hO3.1.symm
                  have hX3 : Ex (fun j => j = gr) w10 wa := hX.grown hG3 (fun k hk => by injection hk with hk; exact .inr hk.symm)
                  have d0 := (hX3.cell (p := ⟨bz, _, none⟩) hbz (by show ¬ bz = gr; omega)).trans b0
                  have d1 := (hX3.cell (p := ⟨bz, _, none⟩) hbz (by show ¬ bz = gr; omega)).trans b1
                  have d2 := (hX3.cell (p := ⟨bz, _, none⟩) hbz (by show ¬ bz = gr; omega)).trans b2
                  have hba := Nat.lt_of_lt_of_le hbz hX3.size
                  have hN3 := hO3.reads
                  have hE1 := (E.refl wa).drew
                  have hE2 := ((E.refl wa).alloc (.cells #[.int .i64 xf, .int .i64 xa, .int .i64 xn] 3)).drew
                  have hNb : Nums .i64 ((wa.alloc (.cells #[.int .i64 xf, .int .i64 xa, .int .i64 xn] 3)).drew) (some ⟨wa.heap.size, 0, none⟩) 3 3 [xf, xa, xn] := nums3h hwx (heap_alloc_new wa _)
                  have HX3 := Lib.hid hX3
                  have HR3 := Lib.hid hR3
                  clear b0 b1 b2 hG3 hX hO3 hR3 hX3 hbg
                  go_upto_region 34 with fail
                  go_region_held3 (fun w' => wa.heap.size ≤ w'.heap.size ∧ ∀ b o, b < wa.heap.size → w'.cell? ⟨b, o, none⟩ = wa.cell? ⟨b, o, none⟩)
                    (first | (with_reducible exact keepE hE1) | (with_reducible exact keepE hE2) | (with_reducible exact keepE hEa) | (with_reducible exact keepE (hEa.alloc _)) | exact sKeepK (by assumption) ((E.refl _).alloc _))
                    (first
                      | (go_at_call 46; (with_reducible refine (sumLot A3 3 c3 [xf, xa, xn] wa.drew (hN3.e hE1)).mono ?_); rintro e wn ⟨rfl, hEn⟩; have hEa := hE1.trans hEn)
                      | (go_at_call 46; (with_reducible refine (sumLot A3 3 c3 [xf, xa, xn] _ (hN3.e hE2)).mono ?_); rintro e wn ⟨rfl, hEn⟩; have hEa := hE2.trans hEn)
                      | (go_at_call 46; (with_reducible refine (sumLot _ 3 3 [xf, xa, xn] _ hNb).mono ?_); rintro e wn ⟨rfl, hEn⟩; have hEa := hE2.trans hEn)
                      | (go_at_call 46; (with_reducible refine (sumLot A3 3 c3 [xf, xa, xn] _ (hN3.e hEa)).mono ?_); rintro e wn ⟨rfl, hEn⟩; replace hEa := hEa.trans hEn)
                      | (go_at_call 46; (with_reducible refine (sumLot _ 3 3 [xf, xa, xn] _ (hNb.e hEn)).mono ?_); rintro e wn ⟨rfl, hEn2⟩; replace hEa := hEa.trans hEn2)
                      | (go_at_call 46; refine (sumLot _ 3 3 [xf, xa, xn] _ (nums3 hwx)).mono ?_; rintro e wn ⟨rfl, hEn2⟩; replace hEa := (hEa.alloc _).trans hEn2))
                  all_goals (
                    rename_i hHd
                    clear hHd
                    have hEw : E wa wn := hEa
                    have hRn := HR3.out.below hEw HR3.out.lt
                    have hXn : Ex (fun j => j = gr) w10 wn := HX3.out.trans (Ex.of_e (X := fun j => j = gr) hEw) (fun _ _ x => x) (fun _ _ x => x)
                    clear hEa hEw
                    go_wp2_with fail
                    go_roundw
                    case rel => exact ⟨i3 + 1, by omega, by go_num, hRn, hXn⟩
                    case measure => simp [intOf]; omega)
                · have hRe : Proofs.Ytgbamgijpgjmgaa.Rd wr gr [] 0 := by
                    rw [List.drop_eq_nil_of_le (by omega)] at hR; exact hR
                  have HEn := Lib.hid (rEnd_c gr [] 0 wr hRe)
                  rw [show endS [] 0 = 0 from rfl] at HEn
                  have R1 := HRS.out.1.ex hX (fun h0 b hb e => by have := HOS.out.1 h0 b hb; omega)
                  have R2 := HRS.out.2.ex hX (fun h0 b hb e => by have := HOS.out.2 h0 b hb; omega)
                  have HSm := Lib.hid (same_self _ _ _ _ _ _ _ _ R1 R2)
                  have hEw : E w wr := ((Ex.of_e (X := fun j => j = gr) HE4.out).trans hX (fun _ _ x => x) (fun _ _ x => x) (Z := fun j => j = gr)).e (fun i hi => by subst hi; exact HGr.out)
                  clear hR hRe R1 R2 hX
                  go_wp2_with fail
                  refine HEn.out.mono ?_
                  rintro e wb ⟨rfl, rfl⟩
                  go_wp2_with fail
                  refine HSm.out.mono ?_
                  rintro e wc ⟨rfl, hEc⟩
                  go_wp2_with fail
                  refine (lives14_c _).mono ?_
                  rintro e wd ⟨rfl, hEd⟩
                  go_wp2_with fail
                  go_ret
                  exact ⟨rfl, hEw.trans (hEc.trans hEd)⟩
end Go.Proofs.Ytgbamgijpgjmgaa
