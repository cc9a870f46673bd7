/- The walk of BidsFeasible. -/
import Derived.Test.YtpbkfpkgbfifaaaKGn
import Derived.Test.YtpbkfpkgbfifaaaLawBV
import Derived.Test.YtpbkfpkgbfifaaaKT
import Derived.Test.YtpbkfpkgbfifaaaKFe
namespace Go.Proofs.Ytpbkfpkgbfifaaa
open Go.RowKit

set_option maxHeartbeats 2000000 in
set_option maxRecDepth 100000 in
theorem refValueZ_c (A : Option Addr) (n c : Nat) (l : List Bd) (A2 : Option Addr) (n2 c2 : Nat) (win : List Int) (w : World) (h : BidsAt w A n c l) (h2 : Nums .i64 w A2 n2 c2 win) (hn : n2 ≤ 1000) (hp : ∀ i, 0 ≤ pr l i ∧ pr l i ≤ 1099511627776) :
    Calls Try.prog 36 #[.slice A n c, .slice A2 n2 c2] w fun e w' => e = .returned (.int .i64 (valZ l win)) ∧ E w w' := by
  have hm := h.n63
  have hl := h.len
  have hl2 := h2.len
  have HP := Lib.hid hp
  clear hp
  go_enter Try.func36, Try.ntmps36
  go_wp2_with fail
  go_loopw [5, 6] (fun ts ti wr => ∃ (k : Nat) (s : Int), k ≤ n2 ∧ ti = .int .i64 k ∧ ts = .int .i64 s ∧ Q w wr ∧ Hid (s = valZ l (win.take k))) (fun _ ti _ => n2 - (intOf ti).toNat)
  case atStart => exact ⟨0, 0, Nat.zero_le _, rfl, rfl, Q.refl _, rfl⟩
  case round =>
    obtain ⟨k, s, hk, rfl, rfl, hq, hs⟩ := hrel
    have hvr := valZ_range HP.out (win.take k)
    have hlk : (win.take k).length ≤ 1000 := by rw [List.length_take]; omega
    rw [← hs.out] at hvr
    have hs0 := hvr.1
    have hs1 : s ≤ 1099511627776000 := by omega
    clear hvr hlk
    by_cases hlt : (k : Int) < (n2 : Int)
    · obtain ⟨b2, o2, y, rfl, hb2, hy, hwy, hcy⟩ := (h2.q hq).get (i := k) (by omega)
      have hyr := wf_i64 hwy
      have HS := Lib.hid (show valZ l (win.take (k + 1)) = s + prZ l y by rw [List.take_add_one, hy, hs.out]; exact valZ_snoc l _ y)
      clear hs hy hwy
      by_cases y0 : 0 ≤ y
      · by_cases yn : y < (n : Int)
        · obtain ⟨yi, rfl⟩ : ∃ yi : Nat, y = yi := ⟨y.toNat, by omega⟩
          obtain ⟨b, o, x, A1, n1, c1, rfl, hb, hx, hv1, hv2, hN, hcs⟩ := h.item (i := yi) (by omega)
          obtain ⟨_, hc2, _⟩ := hcs wr (E.of_q hq)
          have hpx : prZ l (yi : Int) = x.2.1 := by rw [prZ, if_pos (by omega), pr, Int.toNat_natCast, List.getD_eq_getElem?_getD, hx]; rfl
          have hxr := prZ_range HP.out (yi : Int)
          rw [hpx] at hxr
          have HN := Lib.hid (show s + x.2.1 = valZ l (win.take (k + 1)) by rw [HS.out, hpx])
          obtain ⟨xb, xp, xl⟩ := x
          simp only at *
          obtain ⟨hx0, hx1⟩ := hxr
          clear hx hcs hN hpx HS hv1 hv2
          go_wp2_with fail
          exact ⟨⟨k + 1, s + xp, by omega, by go_num, rfl, hq, HN.out⟩, by simp [intOf]; omega⟩
        · have HN := Lib.hid (show s = valZ l (win.take (k + 1)) by rw [HS.out, prZ, if_neg (by omega)]; omega)
          clear HS
          go_wp2_with fail
          exact ⟨⟨k + 1, s, by omega, by go_num, rfl, hq, HN.out⟩, by simp [intOf]; omega⟩
      · have HN := Lib.hid (show s = valZ l (win.take (k + 1)) by rw [HS.out, prZ, if_neg (by omega)]; omega)
        clear HS
        go_wp2_with fail
        exact ⟨⟨k + 1, s, by omega, by go_num, rfl, hq, HN.out⟩, by simp [intOf]; omega⟩
    · have HF := Lib.hid (show s = valZ l win by rw [hs.out, List.take_of_length_le (by omega)])
      go_wp2_with fail
      go_ret
      exact ⟨ret_int HF.out, E.of_q hq⟩

theorem and_i64 (a b : Nat) (ha : a < 1024) (hb : b < 1024) : bits .and .i64 (a : Int) (b : Int) = ((a &&& b : Nat) : Int) := by
  have hx : a &&& b ≤ a := Nat.and_le_left
  have h1 : (BitVec.ofInt 64 (a : Int)).toNat = a := by
    rw [BitVec.ofInt_natCast, BitVec.toNat_ofNat]; exact Nat.mod_eq_of_lt (by omega)
  have h2 : (BitVec.ofInt 64 (b : Int)).toNat = b := by
    rw [BitVec.ofInt_natCast, BitVec.toNat_ofNat]; exact Nat.mod_eq_of_lt (by omega)
  show IntKind.i64.wrap ((BitVec.ofInt 64 (a : Int) &&& BitVec.ofInt 64 (b : Int)).toNat : Int) = _
  rw [BitVec.toNat_and, h1, h2, IntKind.wrap_i64]
  omega
theorem tdiv_range {x : Int} (h1 : -9223372036854775808 ≤ x) (h2 : x ≤ 9223372036854775807) : -9223372036854775808 ≤ x.tdiv 1024 ∧ x.tdiv 1024 ≤ 9223372036854775807 := by
  have h : (x.tdiv 1024).natAbs = x.natAbs / 1024 := Int.natAbs_tdiv x 1024
  omega
set_option maxHeartbeats 8000000 in
set_option maxRecDepth 100000 in
theorem bidsFeasible_w (N bits at_ by_ : Int) (A : Option Addr) (n c : Nat) (l : List Int) (w : World) (h : Nums .i64 w A n c l) (hN1 : -9223372036854775808 ≤ N) (hN2 : N ≤ 9223372036854775807) (hi1 : -9223372036854775808 ≤ bits) (hi2 : bits ≤ 9223372036854775807) (ha1 : -9223372036854775808 ≤ at_) (ha2 : at_ ≤ 9223372036854775807) (hb1 : -9223372036854775808 ≤ by_) (hb2 : by_ ≤ 9223372036854775807) :
    Calls Try.prog 7 #[.int .i64 N, .slice A n c, .int .i64 bits, .int .i64 at_, .int .i64 by_] w (RetK w true) := by
  have hr := aroN_range N (m := 8) (by omega)
  have HL := Lib.hid (lots27_c N w hN1 hN2)
  obtain ⟨K, hK⟩ : ∃ K : Nat, 1 + aroN N 8 = K := ⟨(1 + aroN N 8).toNat, by omega⟩
  rw [hK] at HL
  have hK1 : 1 ≤ K := by omega
  have hK8 : K ≤ 8 := by omega
  clear hK hr
  have HB := Lib.hid (bids27_c K 10 A n c l w h hK1 hK8 (by omega))
  have HA1 := Lib.hid (fun W => around1_c bits 1024 W hi1 hi2 (by omega) (by omega))
  have hra := aroN_range bits (m := 1024) (by omega)
  have hqr := tdiv_range hi1 hi2
  have HA2 := Lib.hid (fun W => around1_c (bits.tdiv 1024) 1024 W hqr.1 hqr.2 (by omega) (by omega))
  have hrb := aroN_range (bits.tdiv 1024) (m := 1024) (by omega)
  obtain ⟨ra, hra'⟩ : ∃ ra : Nat, aroN bits 1024 = ra := ⟨(aroN bits 1024).toNat, by omega⟩
  obtain ⟨rb, hrb'⟩ : ∃ rb : Nat, aroN (bits.tdiv 1024) 1024 = rb := ⟨(aroN (bits.tdiv 1024) 1024).toNat, by omega⟩
  rw [hra'] at HA1 hra
  rw [hrb'] at HA2 hrb
  obtain ⟨ra0, ra1⟩ := hra
  obtain ⟨rb0, rb1⟩ := hrb
  clear hra' hrb' hqr
  go_enter Try.func7, Try.ntmps7
  go_wp2_with fail
  refine HL.out.mono ?_
  rintro e w' ⟨rfl, rfl⟩
  go_wp2_with fail
  refine HB.out.mono ?_
  rintro e w1 ⟨lb, hlb, hgen, A1, n1, c1, q1, rfl, hR1, hq1, hE1⟩
  have hn1 : n1 ≤ 10 := by rw [← hR1.1, ← List.length_map (f := Prod.fst), hq1]; exact hlb
  have hbd1 := hR1.bids
  rw [hq1] at hbd1
  have h1000 := gen_1000 hgen (by omega) (by omega)
  have hpr := gen_pr hgen
  have HG := Lib.hid (given7_c _ _ _ _ _ hbd1 (by omega))
  clear HB HL hq1 hR1 hgen
  go_wp2_with fail
  refine HG.out.mono ?_
  rintro e w2 ⟨A2, n2, c2, q2, rfl, hR2, hq2, hE2⟩
  have hbd2 := hR2.bids
  rw [hq2] at hbd2
  have hnn : n2 = n1 := by rw [← hbd2.len, ← hbd1.len]
  subst hnn
  have hbd12 := hbd1.e hE2
  have hEw2 := hE1.trans hE2
  have H1000 := Lib.hid h1000
  have HPR := Lib.hid hpr
  clear HG hR2 hq2 h1000 hpr hbd1 hE1 hE2
  go_wp2_with fail
  go_loopw [13] (fun ti wr => ∃ i : Nat, i ≤ n2 ∧ ti = .int .i64 i ∧ E w2 wr) (fun ti _ => n2 - (intOf ti).toNat)
  case atStart => exact ⟨0, Nat.zero_le _, rfl, E.refl _⟩
  case round =>
    obtain ⟨i, hi, rfl, hE⟩ := hrel
    by_cases hil : (i : Int) < (n2 : Int)
    · obtain ⟨b, o, x, Ax, nx, cx, rfl, hb, hx, hv1, hv2, hNx, hcs⟩ := hbd12.item (i := i) (by omega)
      obtain ⟨b', o', x', Ax', nx', cx', rfl, hb', hx', hv1', hv2', hNx', hcs'⟩ := hbd2.item (i := i) (by omega)
      have hxx : x' = x := by rw [hx] at hx'; injection hx' with hx'; exact hx'.symm
      subst hxx
      clear hx hx'
      go_wp2_with fail
      go_loopw [14] (fun ti wr => ∃ k : Nat, k ≤ n2 ∧ ti = .int .i64 k ∧ E w2 wr) (fun ti _ => n2 - (intOf ti).toNat)
      case atStart => exact ⟨0, Nat.zero_le _, rfl, hE⟩
      case round =>
        clear hE
        obtain ⟨k, hk, rfl, hE⟩ := hrel
        by_cases hkl : (k : Int) < (n2 : Int)
        · obtain ⟨b1, o1, y, Ay, ny, cy, e1, hb1, hy, hu1, hu2, hNy, hds⟩ := hbd12.item (i := k) (by omega)
          obtain ⟨b2, o2, y', Ay', ny', cy', e2, hb2, hy', hu1', hu2', hNy', hds'⟩ := hbd2.item (i := k) (by omega)
          injection e1 with e1
          injection e1 with e1 e1'
          injection e2 with e2
          injection e2 with e2 e2'
          subst e1 e1' e2 e2'
          have hyy : y' = y := by rw [hy] at hy'; injection hy' with hy'; exact hy'.symm
          subst hyy
          clear hy hy'
          obtain ⟨p1, p2, p3⟩ := hcs wr hE
          obtain ⟨p1', p2', p3'⟩ := hcs' wr hE
          obtain ⟨q1, q2, q3⟩ := hds wr hE
          obtain ⟨q1', q2', q3'⟩ := hds' wr hE
          have HC := Lib.hid (fun W (hW : E wr W) => conflict_c x' y' Ax' Ay' nx' cx' ny' cy' W ((hNx'.e hE).e hW) ((hNy'.e hE).e hW))
          have HRC := Lib.hid (fun W (hW : E wr W) => refConflict_c x' y' Ax Ay nx cx ny cy W ((hNx.e hE).e hW) ((hNy.e hE).e hW))
          unfold bdV at HC HRC
          generalize confl x' y' = cf at *
          obtain ⟨xb, xp, xl⟩ := x'
          obtain ⟨yb, yp, yl⟩ := y'
          simp only at *
          have e0 : (cf != cf) = false := by cases cf <;> rfl
          have hw1 : b < wr.heap.size := Nat.lt_of_lt_of_le hb hE.le
          have hw2 : b' < wr.heap.size := Nat.lt_of_lt_of_le hb' hE.le
          have hkI : (k : Int) < (n2 : Int) := hkl
          go_wp2_with fail
          go_region_held3 (fun w' => wr.heap.size ≤ w'.heap.size ∧ ∀ b o, b < wr.heap.size → w'.cell? ⟨b, o, none⟩ = wr.cell? ⟨b, o, none⟩) (first | exact keepE2 ((E.refl _).drew) | exact keepE2 hEa | exact keepE2 hEb)
            (first
              | (go_at_call 33; refine (HC.out _ ((E.refl wr).drew)).mono ?_; rintro e wa ⟨rfl, hE4⟩; have hEa := ((E.refl wr).drew).trans hE4)
              | (go_at_call 34; refine (HRC.out _ hEa).mono ?_; rintro e wb ⟨rfl, hE5⟩; have hEb := hEa.trans hE5))
          all_goals
            go_wp2_with fail
            exact ⟨⟨k + 1, by omega, by go_num, hE.trans hEb⟩, by simp [intOf]; omega⟩
        · go_wp2_with fail
          exact ⟨⟨i + 1, by omega, by go_num, hE⟩, by simp [intOf]; omega⟩
    · go_wp2_with fail
      refine (HA1.out _).mono ?_
      rintro e w' ⟨rfl, rfl⟩
      go_wp2_with fail
      refine (choice_c ra n2 _ (by omega) (by omega)).mono ?_
      rintro e w3 ⟨A3, n3, c3, rfl, hO3, hE3⟩
      go_wp2_with fail
      refine (HA1.out _).mono ?_
      rintro e w' ⟨rfl, rfl⟩
      go_wp2_with fail
      refine (HA2.out _).mono ?_
      rintro e w' ⟨rfl, rfl⟩
      have hand := and_i64 ra rb (by omega) (by omega)
      have hle : ra &&& rb ≤ ra := Nat.and_le_left
      generalize ra &&& rb = rc at *
      go_wp2_with fail
      refine (choice_c rc n2 _ (by omega) (by omega)).mono ?_
      rintro e w4 ⟨A4, n4, c4, rfl, hO4, hE4⟩
      have hn3 : n3 ≤ 10 := by
        have := hO3.1; rw [ints_len] at this
        have h2 := chF_range n2 0 ra
        have h3 := nodup_len (h2.1.imp (fun h e => by omega)) (fun x hx => (h2.2 x hx).2)
        omega
      have hn4 : n4 ≤ 10 := by
        have := hO4.1; rw [ints_len] at this
        have h2 := chF_range n2 0 rc
        have h3 := nodup_len (h2.1.imp (fun h e => by omega)) (fun x hx => (h2.2 x hx).2)
        omega
      have hN3 := hO3.reads.e hE4
      have hN4 := hO4.reads
      have hE24 := (hE.trans hE3).trans hE4
      generalize ints (chF 0 n2 ra) = cl at *
      generalize ints (chF 0 n2 rc) = fl at *
      clear hO3 hO4 hand hle hE3 hE4 HA1 HA2 hE
      have hNe := hN4.e ((E.refl w4).alloc (.cells #[] 3))
      have hOe := Own.empty w4 .i64 3
      have HAr := Lib.hid (fun (hh : 0 < (n4 : Int)) W => around1_c at_ (n4 : Int) W ha1 ha2 hh (by omega))
      have hle4 : w4.heap.size ≤ (w4.alloc (.cells #[] 3)).heap.size := by simp
      go_upto_if 76 with (first | (refine wpList_appN intTk _ rfl _ _ rfl w4.heap.size _ _ _ _ rfl hOe _ _ _ _ rfl hNe (by omega) hle4 ?_; intro A5 c5 w5 hO5 hG5 hB5) | fail)
      have hE45 : E w4 w5 := ((E.refl w4).alloc _).up hB5
      rw [Nat.zero_add, List.nil_append] at hO5
      clear hG5 hB5 hNe hOe hle4
      go_cut [] (fun wx => ∃ dl, Own .i64 3 wx w4.heap.size A5 n4 c5 dl ∧ E w4 wx)
      case first =>
        by_cases h0 : 0 < (n4 : Int)
        · have hr5 := aroN_range at_ (m := (n4 : Int)) h0
          have HAr' := Lib.hid (HAr.out h0)
          obtain ⟨ri, hri⟩ : ∃ ri : Nat, aroN at_ (n4 : Int) = ri := ⟨(aroN at_ (n4 : Int)).toNat, by omega⟩
          rw [hri] at HAr' hr5
          obtain ⟨_, ri1⟩ := hr5
          obtain ⟨g5, x5, rfl, hg5, hlt5, hx5, hw5, hc5', hf5⟩ := hO5.get (i := ri) (by omega)
          clear hri
          go_wp2_with fail
          refine (HAr'.out _).mono ?_
          rintro e w' ⟨rfl, rfl⟩
          go_wp2_with fail
          go_meet
          exact ⟨_, hO5.set ri by_ (wf_of_i64 hb1 hb2), hE45.setCell (p := ⟨g5, ri, none⟩) hg5 _⟩
        · go_wp2_with fail
          go_meet
          exact ⟨_, hO5, hE45⟩
      case rest =>
        obtain ⟨dl, hO6, hE46⟩ := hcut
        generalize wc = w6 at *
        clear hO5 hE45 HAr
        have hN36 := hN3.e hE46
        have hN46 := hN4.e hE46
        have hN56 := hO6.reads
        have hE26 := hE24.trans hE46
        have hNe := hN46.e ((E.refl w6).alloc (.cells #[] 3))
        have hOe := Own.empty w6 .i64 3
        have hle6 : w6.heap.size ≤ (w6.alloc (.cells #[] 3)).heap.size := by simp
        clear hN3 hN4 hO6 hE46 hE24
        go_upto_region 17 with (first | (refine wpList_appN intTk _ rfl _ _ rfl w6.heap.size _ _ _ _ rfl hO7 _ _ _ _ rfl hN47 (by omega) hle7 ?_; intro A8 c8 w8 hO8 hG8 hB8) | (refine wpList_appN intTk _ rfl _ _ rfl w6.heap.size _ _ _ _ rfl hOe _ _ _ _ rfl hNe (by omega) hle6 ?_; intro A7 c7 w7 hO7 hG7 hB7; rw [Nat.zero_add] at hO7; have hE67 : E w6 w7 := ((E.refl w6).alloc _).up hB7; have hN47 := hN46.e hE67; have hle7 := hE67.le) | fail)
        have hE68 : E w6 w8 := hE67.up hB8
        have hN8 := hO8.reads
        have hn8 : n4 + n4 ≤ 1000 := by omega
        obtain ⟨n8, hn8e⟩ : ∃ n8, n4 + n4 = n8 := ⟨_, rfl⟩
        rw [hn8e] at hN8 hn8 ⊢
        have hN38 := hN36.e hE68
        have hN48 := hN46.e hE68
        have hN58 := hN56.e hE68
        have hE28 := hE26.trans hE68
        clear hN36 hN46 hN56 hE26 hNe hOe hle6 hO7 hG7 hB7 hE67 hN47 hle7 hO8 hG8 hB8 hE68 hn8e
        have hE9 : E w8 (w8.alloc (.cells #[.slice A3 n3 c3, .slice A4 n4 c4, .slice A5 n4 c5, .slice A8 n8 c8] 22)) := (E.refl _).alloc _
        have hblk := heap_alloc_new w8 (.cells #[.slice A3 n3 c3, .slice A4 n4 c4, .slice A5 n4 c5, .slice A8 n8 c8] 22)
        generalize w8.alloc (.cells #[.slice A3 n3 c3, .slice A4 n4 c4, .slice A5 n4 c5, .slice A8 n8 c8] 22) = w9 at *
        have hsz := lt_blk hblk
        have HALL := Lib.hid (show ∀ i, i < 4 → ∃ Ai ni ci wi, w9.cell? ⟨w8.heap.size, i, none⟩ = some (.slice Ai ni ci) ∧ Nums .i64 w9 Ai ni ci wi ∧ ni ≤ 1000 from fun i hi => by
          obtain rfl | rfl | rfl | rfl : i = 0 ∨ i = 1 ∨ i = 2 ∨ i = 3 := by omega
          · exact ⟨A3, n3, c3, _, cell_of_row _ _ 0 _ _ _ hblk, hN38.e hE9, by omega⟩
          · exact ⟨A4, n4, c4, _, cell_of_row _ _ 1 _ _ _ hblk, hN48.e hE9, by omega⟩
          · exact ⟨A5, n4, c5, _, cell_of_row _ _ 2 _ _ _ hblk, hN58.e hE9, by omega⟩
          · exact ⟨A8, n8, c8, _, cell_of_row _ _ 3 _ _ _ hblk, hN8.e hE9, hn8⟩)
        have hE29 := hE28.trans hE9
        have hbd19 := hbd12.e hE29
        have hbd29 := hbd2.e hE29
        have hEw9 := hEw2.trans hE29
        clear hN38 hN48 hN58 hN8 hE28 hE9 hblk hbd12 hbd2 hE29 hEw2
        go_wp2_with fail
        go_loopw [19] (fun ti wr => ∃ j : Nat, j ≤ 4 ∧ ti = .int .i64 j ∧ E w9 wr) (fun ti _ => 4 - (intOf ti).toNat)
        case atStart => exact ⟨0, Nat.zero_le _, rfl, E.refl _⟩
        case round =>
          obtain ⟨j, hj, rfl, hE⟩ := hrel
          by_cases hj4 : (j : Int) < 4
          · obtain ⟨Ai, ni, ci, wi, hci, hNi, hni⟩ := HALL.out j (by omega)
            have hcr := (hE.cell (p := ⟨w8.heap.size, j, none⟩) hsz).trans hci
            have hszr : w8.heap.size < wr.heap.size := Nat.lt_of_lt_of_le hsz hE.le
            have HF1 := Lib.hid (fun W (hW : E wr W) => bFeasible_c _ _ _ lb Ai ni ci wi W ((hbd29.e hE).e hW) ((hNi.e hE).e hW) hni H1000.out)
            have HF2 := Lib.hid (fun W (hW : E wr W) => refFeasible_c _ _ _ lb Ai ni ci wi W ((hbd19.e hE).e hW) ((hNi.e hE).e hW))
            have HV1 := Lib.hid (fun W (hW : E wr W) => bValue_c _ _ _ lb Ai ni ci wi W ((hbd29.e hE).e hW) ((hNi.e hE).e hW) hni HPR.out)
            have HV2 := Lib.hid (fun W (hW : E wr W) => refValueZ_c _ _ _ lb Ai ni ci wi W ((hbd19.e hE).e hW) ((hNi.e hE).e hW) hni HPR.out)
            generalize feasZ lb wi = fz at *
            generalize valZ lb wi = vz at *
            have e0 : (fz != fz) = false := by cases fz <;> rfl
            have e1 : (vz != vz) = false := by simp
            clear hci hNi
            go_wp2_with fail
            go_region_held3 (fun w' => wr.heap.size ≤ w'.heap.size ∧ ∀ b o, b < wr.heap.size → w'.cell? ⟨b, o, none⟩ = wr.cell? ⟨b, o, none⟩) (first | exact keepE2 ((E.refl _).drew) | exact keepE2 hEd | exact keepE2 hEc | exact keepE2 hEb | exact keepE2 hEa)
              (first
                | (go_at_call 28; refine (HF1.out _ ((E.refl wr).drew)).mono ?_; rintro e wa ⟨rfl, hE4⟩; have hEa := ((E.refl wr).drew).trans hE4)
                | (go_at_call 35; refine (HF2.out _ hEa).mono ?_; rintro e wb ⟨rfl, hE5⟩; have hEb := hEa.trans hE5)
                | (go_at_call 31; refine (HV1.out _ hEb).mono ?_; rintro e wc' ⟨rfl, hE6⟩; have hEc := hEb.trans hE6)
                | (go_at_call 36; refine (HV2.out _ hEc).mono ?_; rintro e wd ⟨rfl, hE7⟩; have hEd := hEc.trans hE7))
            all_goals
              go_wp2_with fail
              exact ⟨⟨j + 1, by omega, by go_num, hE.trans hEd⟩, by simp [intOf]; omega⟩
          · have HLi := Lib.hid (lives27_c wr)
            go_wp2_with fail
            refine HLi.out.mono ?_
            rintro e w10 ⟨rfl, hE10⟩
            go_wp2_with fail
            go_ret
            exact ⟨rfl, (hEw9.trans hE).trans hE10⟩
end Go.Proofs.Ytpbkfpkgbfifaaa
