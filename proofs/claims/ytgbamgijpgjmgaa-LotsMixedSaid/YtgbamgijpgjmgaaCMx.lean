/- Lemmas of the claim, joined: LawMx. No condition. -/
import Derived.Test.YtgbamgijpgjmgaaBL
import Derived.Test.YtgbamgijpgjmgaaBN
/- LotsMixed. -/
namespace Go.Proofs.Ytgbamgijpgjmgaa
open Go.RowKit Go.Shelf

theorem take_of2 {l : List Lt} {m : Int} {mixed : Bool} {r : List Lt × List Lt × Int} (h : takeS l m mixed = r) (A : Option Addr) (n c : Nat) (w : World) (h1 : LotsAt w A n c l) : Calls Try.prog 16 #[.slice A n c, .int .i64 m, .bool mixed] w (RetTk w r) := by
  subst h
  exact take_c m mixed A n c l w h1
theorem total_of2 {l : List Lt} {t : Int} (h : totalS l = t) (A : Option Addr) (n c : Nat) (w : World) (h1 : LotsAt w A n c l) : Calls Try.prog 24 #[.slice A n c] w (RetN w t) := by
  rw [← h]
  exact total_c A n c l w h1
def MixL (t : List Lt) : Prop := ∀ (j : Nat) (y : Lt), t[j]? = some y → y.1 = 10 + (j : Int) ∧ possB y = true
theorem mix_snoc {t : List Lt} {k : Nat} {y : Lt} (h : MixL t) (hk : t.length = k) (hy : possB y = true) : MixL (t ++ [(10 + (k : Int), y.2.1, y.2.2)]) := fun j z hz => by
  rcases Nat.lt_or_ge j t.length with hj | hj
  · rw [List.getElem?_append_left hj] at hz; exact h j z hz
  · rw [List.getElem?_append_right hj] at hz
    have : j - t.length = 0 := by have := (List.getElem?_eq_some_iff.1 hz).1; simpa using this
    rw [this] at hz
    simp at hz
    subst hz
    have hp := possB_iff.1 hy
    exact ⟨by simp only; omega, possB_iff.2 (by simp only; omega)⟩
theorem mix_valid {t : List Lt} (h : MixL t) (hl : t.length ≤ 7) : validB t = true := validB_iff.2 ⟨by omega, fun y hy => by
  obtain ⟨j, hj⟩ := List.getElem?_of_mem hy
  exact (h j y hj).2⟩
theorem cells3h {w : World} {b : Nat} {x y z : Value} {T : TypeId} (h : w.heap[b]? = some (.cells #[x, y, z] T (0, 0))) : w.cell? ⟨b, 0, none⟩ = some x ∧ w.cell? ⟨b, 1, none⟩ = some y ∧ w.cell? ⟨b, 2, none⟩ = some z ∧ w.frozen? ⟨b, 0, none⟩ = false :=
  ⟨cell_of_row _ _ 0 _ _ _ h, cell_of_row _ _ 1 _ _ _ h, cell_of_row _ _ 2 _ _ _ h, frozen_of_row _ _ 0 _ _ h⟩
set_option maxHeartbeats 16000000 in
set_option maxRecDepth 100000 in
theorem lotsMixed_w (m : Int) (Aa : Option Addr) (na ca : Nat) (la : List Int) (w : World) (ha : Nums .i64 w Aa na ca la) (m1 : -9223372036854775808 ≤ m) (m2 : m ≤ 9223372036854775807) :
    Calls Try.prog 6 #[.slice Aa na ca, .int .i64 m] w fun e w' => e = .returned (.bool true) ∧ E w w' := by
  have HG1 := Lib.hid (lots14_c 0 Aa na ca la w ha (by omega))
  clear ha
  go_enter Try.func6, Try.ntmps6
  go_wp2_with fail
  refine HG1.out.mono ?_
  rintro e w1 ⟨q, hlq, hgq, A0, n0, c0, rfl, hO0, hE0⟩
  have hR0 := hO0.reads
  have hn0 : n0 ≤ 7 := by have := hO0.1; omega
  have HQ := Lib.hid hgq
  have hm63 := hR0.n63
  clear hO0 HG1 hgq hlq
  go_wp2_with fail
  go_loopw [6, 7] (fun t6 ti wr => ∃ (k c6 : Nat) (A6 : Option Addr) (t : List Lt), k ≤ n0 ∧ ti = .int .i64 k ∧ t6 = .slice A6 k c6 ∧ OwnL wr w1.heap.size A6 k c6 t ∧ E w1 wr ∧ Hid (MixL t)) (fun _ ti _ => n0 - (intOf ti).toNat)
  case atStart => exact ⟨0, 0, none, [], by omega, rfl, rfl, OwnL.nil _ _, E.refl _, fun j y hy => by simp at hy⟩
  case round =>
    obtain ⟨k, c6, A6, t, hk, rfl, rfl, hO, hE, ht⟩ := hrel
    by_cases hlt : k < n0
    · obtain ⟨b, o, y, rfl, hb, hy, hwy, d0, d1, d2⟩ := (hR0.e hE).get hlt
      have hkI : (k : Int) < (n0 : Int) := by omega
      have hk0 : (0 : Int) ≤ (k : Int) := by omega
      have hk7 : (k : Int) ≤ 7 := by omega
      have hpy := (HQ.out y (List.mem_of_getElem? hy)).1
      have hyy := possB_iff.1 hpy
      have HM := Lib.hid (mix_snoc ht.out hO.1 hpy)
      have hE4 : E wr (wr.alloc (.cells #[.int .i64 y.1, .int .i64 y.2.1, .int .i64 y.2.2] 39)) := (E.refl _).alloc _
      have hb4 := heap_alloc_new wr (.cells #[.int .i64 y.1, .int .i64 y.2.1, .int .i64 y.2.2] 39)
      obtain ⟨w4, hw4⟩ : ∃ w4, wr.alloc (.cells #[.int .i64 y.1, .int .i64 y.2.1, .int .i64 y.2.2] 39) = w4 := ⟨_, rfl⟩
      rw [hw4] at hE4 hb4
      have HW4 := Lib.hid hw4
      have hO4 := hO.e hE4
      have HOB := Lib.hid (show ∀ q, ob A6 = some q → q ≠ wr.heap.size from fun q hq e => by have := (hO.ltN q hq).2; omega)
      have hwr1 : w1.heap.size ≤ wr.heap.size := hE.le
      have hE14 := hE.trans hE4
      clear hy hw4 hO ht hpy hE4 hE
      obtain ⟨yf, ya, yn⟩ := y
      simp only at d0 d1 d2 hb4 HW4 HM hyy
      go_upto_region 7 with fail
      rw [HW4.out]
      clear HW4 d0 d1 d2
      obtain ⟨e0, e1, e2, f0⟩ := cells3h hb4
      have hB4 := lt_blk hb4
      have hwk : IntKind.i64.wrap (10 + (k : Int)) = 10 + (k : Int) := by rw [IntKind.wrap_i64]; omega
      go_upto_region 8 with fail
      have hb5 : (w4.setCell ⟨wr.heap.size, 0, none⟩ (.int .i64 (10 + (k : Int)))).heap[wr.heap.size]? = some (.cells #[.int .i64 (10 + (k : Int)), .int .i64 ya, .int .i64 yn] 39 (0, 0)) := heap_setCell_same _ _ 0 _ _ _ hb4
      have hX5 : Ex (fun i => i = wr.heap.size) w4 (w4.setCell ⟨wr.heap.size, 0, none⟩ (.int .i64 (10 + (k : Int)))) := (Ex.refl (fun i => i = wr.heap.size) w4).setCell ⟨wr.heap.size, 0, none⟩ (.inr rfl) _
      have hE5 : E w1 (w4.setCell ⟨wr.heap.size, 0, none⟩ (.int .i64 (10 + (k : Int)))) := hE14.setCell (p := ⟨wr.heap.size, 0, none⟩) hwr1 _
      have hO5 := hO4.ex hX5 (fun q hq e => HOB.out q hq e)
      obtain ⟨w5, hw5⟩ : ∃ w5, w4.setCell ⟨wr.heap.size, 0, none⟩ (.int .i64 (10 + (k : Int))) = w5 := ⟨_, rfl⟩
      rw [hw5] at hb5 hE5 hO5 ⊢
      clear hw5 hX5 e0 e1 e2 f0 hb4 hO4 hE14 hB4
      obtain ⟨e0, e1, e2, f0⟩ := cells3h hb5
      have hB5 := lt_blk hb5
      have hww : WfL (10 + (k : Int), ya, yn) := ⟨wf_of_i64 (by simp only; omega) (by simp only; omega), wf_of_i64 (by simp only; omega) (by simp only; omega), wf_of_i64 (by simp only; omega) (by simp only; omega)⟩
      have hL5 := lot_new (w := w5) hww
      have hO6 := hO5.e ((E.refl w5).alloc (.cells #[.int .i64 (10 + (k : Int)), .int .i64 ya, .int .i64 yn] 39))
      have hba : w1.heap.size ≤ (w5.alloc (.cells #[.int .i64 (10 + (k : Int)), .int .i64 ya, .int .i64 yn] 39)).heap.size := by rw [World.size_alloc]; have := hE5.le; omega
      have hE6 := hE5.alloc (.cells #[.int .i64 (10 + (k : Int)), .int .i64 ya, .int .i64 yn] 39)
      have hkq : k + 1 ≤ 1099511627776 := by omega
      go_wp2_with (at_builtin; refine wpList_appL _ rfl _ _ rfl w1.heap.size _ _ _ _ rfl hO6 _ 1 1 [(10 + (k : Int), ya, yn)] rfl hL5 hkq hba ?_; intro A7 c7 w7 hO7 hG7 hB7 hor7)
      go_roundw
      case rel => exact ⟨k + 1, c7, A7, _, by omega, by go_num, rfl, hO7, hE6.up hB7, HM.out⟩
      case measure => simp [intOf]; omega
    · obtain rfl : k = n0 := by omega
      have hvs := mix_valid ht.out (by have := hO.1; omega)
      have Rs := hO.reads
      have hn1 := hO.1
      have HD := Lib.hid (fun (j : Nat) (y : Lt) (hy : t[j]? = some y) => (ht.out j y hy).1)
      replace hE0 := hE0.trans hE
      have htot := tot_valid hvs
      have htL : totalS t = totL t := by rw [totalS, hvs]; rfl
      have htr := tot_range (l := t)
      have HT := Lib.hid (fun W (h : LotsAt W A6 k c6 t) => total_c A6 k c6 t W h)
      obtain ⟨T, hT⟩ : ∃ T, totalS t = T := ⟨_, rfl⟩
      rw [hT] at htot htL htr HT
      clear hO hE hR0
      by_cases hz : T = 0
      · subst hz
        have hs0 : t = [] := by
          cases t with
          | nil => rfl
          | cons x s =>
            have := (possB_iff.1 ((validB_iff.1 hvs).2 x (by simp))).2.2.2.1
            rw [U_cons, List.length_append, ul_len] at htot
            omega
        have hk0 : k = 0 := by rw [← hn1, hs0]; rfl
        have hkI : ((k : Int) == 0) = true := by simp [hk0]
        clear hs0 hn1 htot htL htr hT hvs hk0
        go_wp2_with fail
        refine (HT.out _ Rs).mono ?_
        rintro e w3 ⟨rfl, hE3⟩
        go_wp2_with fail
        refine (lives14_c _).mono ?_
        rintro e w4 ⟨rfl, hE4⟩
        go_wp2_with fail
        go_ret
        exact ⟨rfl, (hE0.trans hE3).trans hE4⟩
      · have hzI : (T == 0) = false := by simpa using hz
        go_wp2_with fail
        refine (HT.out _ Rs).mono ?_
        rintro e w3 ⟨rfl, hE3⟩
        replace Rs := Rs.e hE3
        replace hE0 := hE0.trans hE3
        clear hE3
        obtain ⟨p, hp⟩ : ∃ p, min T 1099511627776 = p := ⟨_, rfl⟩
        have HMIN := Lib.hid hp
        have HIF := Lib.hid (show (if 1099511627776 < T then 1099511627776 else T) = p by split <;> omega)
        have hp1 : 1 ≤ p ∧ p ≤ 1099511627776 ∧ p ≤ T := by omega
        have HA := Lib.hid (fun W => aroundR m (p + 1) W m1 m2 (by omega) (by omega))
        have ha0 := Int.emod_nonneg m (show p + 1 ≠ 0 by omega)
        have ha1 := Int.emod_lt_of_pos m (show 0 < p + 1 by omega)
        generalize m % (p + 1) = a at *
        have hwp : IntKind.i64.wrap (p + 1) = p + 1 := by rw [IntKind.wrap_i64]; omega
        have hat : a ≤ totL t := by omega
        have HF := take_facts (mixed := true) hvs ha0 (by omega) hat
        obtain ⟨r, hr⟩ : ∃ r, takeS t a true = r := ⟨_, rfl⟩
        have HGot := Lib.hid (fun i y x hy hx => got_mixed (mixed := true) hvs ha0 (by omega) hat HD.out hr (i := i) (y := y) (x := x) hy hx)
        have HQuo := Lib.hid (fun i y x hy hx => quota_mixed hvs ha0 (by omega) hat (by omega) (i := i) (y := y) (x := x) hy hx)
        rw [← htL] at HQuo
        rw [hr] at HF
        obtain ⟨r1, r2, r3⟩ := r
        obtain rfl : r3 = 0 := HF.e
        have HR := Lib.hid hr
        have hl1 := HF.l1
        simp only at hl1
        have HCL := Lib.hid (countK_len (l := t) (m := a) (mixed := true))
        have hTr : 1 ≤ T ∧ T ≤ 4503599627370496 := by omega
        have HA01 := Lib.hid (And.intro ha0 ha1)
        have HP := Lib.hid (fun y (hy : y ∈ t) => possB_iff.1 ((validB_iff.1 hvs).2 y hy))
        clear hp htot htL htr hz hzI HT hT hr HF hvs hat
        go_wp2_with fail
        first | rw [HMIN.out] | rw [HIF.out]
        refine (HA.out _).mono ?_
        rintro e w4 ⟨rfl, rfl⟩
        go_wp2_with fail
        refine (take_of2 HR.out A6 k c6 _ Rs).mono ?_
        rintro e v1 ⟨Ax, nx, cx, Ay, ny, cy, rfl, hOx, hOy, hEv⟩
        have Rx := hOx.reads
        have hlx := hOx.1
        have Ry := hOy.reads
        have hly := hOy.1
        clear hOx hOy
        replace Rs := Rs.e hEv
        replace hE0 := hE0.trans hEv
        clear hEv
        have bx : nx ≤ 7 := by have : r1.length = nx := hlx; omega
        clear hlx hly Ry
        have HX := Lib.hid (And.intro Rx Rs)
        have HE0 := Lib.hid hE0
        have hm63 := Rs.n63
        have hc63 := Rs.c63
        have hcap := Rs.cap
        clear Rx Rs hE0
        go_wp2_with fail
        go_loopw [14] (fun ti wr => ∃ i : Nat, i ≤ k ∧ ti = .int .i64 i ∧ E v1 wr) (fun ti _ => k - (intOf ti).toNat)
        case atStart => exact ⟨0, by omega, rfl, E.refl _⟩
        case round =>
          obtain ⟨i, hi, rfl, hE⟩ := hrel
          by_cases hlt : i < k
          · have hiI : (i : Int) < (k : Int) := by omega
            have hi0 : (0 : Int) ≤ (i : Int) := by omega
            have hi1 : (i : Int) + 1 ≤ (k : Int) := by omega
            have hwri : IntKind.i64.wrap ((i : Int) + 1) = (i : Int) + 1 := by rw [IntKind.wrap_i64]; omega
            have hii : (i : Int) ≤ (i : Int) + 1 := by omega
            obtain ⟨b, o, y, rfl, hb, hy, hwy, d0, d1, d2⟩ := (HX.out.2.e hE).get hlt
            obtain ⟨bx2, ox2, eA, hSub⟩ := (HX.out.2.e hE).sub i 1 (by omega) (by omega)
            injection eA with eA
            injection eA with eA1 eA2
            subst eA1 eA2
            have e1 : (t.drop i).take 1 = [y] := by
              obtain ⟨hk, rfl⟩ := List.getElem?_eq_some_iff.1 hy
              rw [List.drop_eq_getElem_cons hk]; rfl
            rw [e1] at hSub
            obtain ⟨x, hx⟩ : ∃ x, (countK t a true)[i]? = some x := ⟨_, List.getElem?_eq_getElem (by rw [HCL.out, hn1]; exact hlt)⟩
            obtain ⟨g1, g2⟩ := HGot.out i y x hy hx
            obtain ⟨q1, q2, q3, q4⟩ := HQuo.out i y x hy hx
            have hpy := HP.out y (List.mem_of_getElem? hy)
            have HM := Lib.hid (lMeet_c Ax nx cx r1 _ 1 _ [y] wr (HX.out.1.e hE) hSub (by omega) (by omega))
            have HTo := Lib.hid (fun A9 n9 c9 W (h9 : LotsAt W A9 n9 c9 (lmeet r1 [y])) => total_of2 g1 A9 n9 c9 W h9)
            have HPa := Lib.hid (fun W => part_c a y.2.2 T W)
            have HCe := Lib.hid (fun W => ceil_c a y.2.2 T W)
            rw [q1] at HPa
            rw [q2] at HCe
            generalize divQ a y.2.2 T = lo at *
            generalize ceilQ a y.2.2 T = hi_ at *
            have s1 : decide (x < lo) = false := decide_eq_false (by omega)
            have s2 : decide (hi_ < x) = false := decide_eq_false (by omega)
            have HS := Lib.hid (And.intro s1 s2)
            have HCell := Lib.hid (fun W (hW : E wr W) => (hW.cell (p := ⟨b, _, none⟩) hb).trans d2)
            have HEr := Lib.hid hE
            clear g1 g2 q1 q2 q3 q4 e1 hx hy hSub hE s1 s2 d0 d1
            obtain ⟨yf, ya, yn⟩ := y
            simp only at d2 HPa HCe HCell
            go_wp2_with fail
            refine HM.out.mono ?_
            rintro e w7 ⟨A9, n9, c9, rfl, hO9, hE9⟩
            go_wp2_with fail
            refine (HTo.out A9 n9 c9 _ hO9.reads).mono ?_
            rintro e w8 ⟨rfl, hE8⟩
            have hE98 := hE9.trans hE8
            clear d2 hO9 hE9 hE8
            have d2 := HCell.out w8 hE98
            have hb8 := Nat.lt_of_lt_of_le hb hE98.le
            go_wp2_with fail
            refine (HPa.out _).mono ?_
            rintro e w9 ⟨rfl, hQ9⟩
            have hE99 := hE98.q hQ9
            clear d2
            have d2 := HCell.out w9 hE99
            have hb9 := Nat.lt_of_lt_of_le hb hE99.le
            clear hQ9 hE98 hb8
            go_wp2_with fail
            refine (HCe.out _).mono ?_
            rintro e w10 ⟨rfl, hQ10⟩
            have hE10 := hE99.q hQ10
            obtain ⟨s1, s2⟩ := HS.out
            clear d2 hQ10 hE99
            go_wp2_with fail
            go_roundw
            case rel => exact ⟨i + 1, by omega, by go_num, HEr.out.trans hE10⟩
            case measure => simp [intOf]; omega
          · go_wp2_with fail
            refine (lives14_c _).mono ?_
            rintro e w9 ⟨rfl, hE9⟩
            go_wp2_with fail
            go_ret
            exact ⟨rfl, HE0.out.trans (hE.trans hE9)⟩
end Go.Proofs.Ytgbamgijpgjmgaa
