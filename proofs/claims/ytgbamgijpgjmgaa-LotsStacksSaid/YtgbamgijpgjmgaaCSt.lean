/- Lemmas of the claim, joined: LawSt. No condition. -/
import Derived.Test.YtgbamgijpgjmgaaBL
import Derived.Test.YtgbamgijpgjmgaaBM
/- LotsStacks. -/
namespace Go.Proofs.Ytgbamgijpgjmgaa
open Go.RowKit Go.Shelf

theorem own_one {W : World} {x : Lt} {base : Nat} (hx : WfL x) (hb : base ≤ W.heap.size) : OwnL (W.alloc (.cells #[.int .i64 x.1, .int .i64 x.2.1, .int .i64 x.2.2] 39)) base (some ⟨W.heap.size, 0, none⟩) 1 1 [x] :=
  ⟨rfl, ⟨rfl, .inr ⟨W.heap.size, 1, _, rfl, hb, heap_alloc_new W _, Nat.le_refl _, by unfold maxLen; omega, rfl, rfl⟩⟩, by intro y hy; rw [List.mem_singleton] at hy; subst hy; exact hx⟩
set_option maxHeartbeats 16000000 in
set_option maxRecDepth 100000 in
theorem lotsStacks_w (x : Lt) (A : Option Addr) (n c : Nat) (raw : List Lt) (A' : Option Addr) (n' c' : Nat) (l : List Int) (w : World) (h : LotsAt w A n c raw) (hxw : WfL x) (h' : Nums .i64 w A' n' c' l) :
    Calls Try.prog 5 #[.slice A n c, ltV x, .slice A' n' c'] w fun e w' => e = .returned (.bool true) ∧ E w w' := by
  obtain ⟨w0, hw0⟩ : ∃ w0, w.alloc (.cells #[.int .i64 x.1, .int .i64 x.2.1, .int .i64 x.2.2] 39) = w0 := ⟨_, rfl⟩
  have hE0 : E w w0 := by rw [← hw0]; exact (E.refl w).alloc _
  have hB0 : LotsAt w0 (some ⟨w.heap.size, 0, none⟩) 1 1 [x] := by rw [← hw0]; exact lot_new hxw
  have HW0 := Lib.hid hw0
  have HB0 := Lib.hid hB0
  have HE0 := Lib.hid hE0
  have HF := Lib.hid (few_c A n c raw w0 (h.e hE0))
  have HG0 := Lib.hid (fun W (hE : E w0 W) => lots14_c 0 A' n' c' l W ((h'.e hE0).e hE) (by omega))
  have HG5 := Lib.hid (fun W (hE : E w0 W) => lots14_c 5 A' n' c' l W ((h'.e hE0).e hE) (by omega))
  have HG9 := Lib.hid (fun W (hE : E w0 W) => lots14_c 9 A' n' c' l W ((h'.e hE0).e hE) (by omega))
  have hxx := hxw
  clear hw0 hB0 hE0 h h'
  obtain ⟨xf, xa, xn⟩ := x
  unfold ltV
  simp only at HW0
  go_enter Try.func5, Try.ntmps5
  go_upto_region 1 with fail
  rw [HW0.out]
  clear HW0
  go_wp2_with fail
  refine HF.out.mono ?_
  rintro e w1 ⟨A1, n1, c1, rfl, hO1, hE1⟩
  go_wp2_with fail
  refine (HG0.out _ hE1).mono ?_
  rintro e w2 ⟨q, hlq, hgq, A2, n2, c2, rfl, hO2, hE2⟩
  have hE02 := hE1.trans hE2
  go_wp2_with fail
  refine (HG5.out _ hE02).mono ?_
  rintro e w3 ⟨q5, hlq5, hgq5, A3, n3, c3, rfl, hO3, hE3⟩
  have hRow := rowL3 (hO1.reads.e (hE2.trans hE3)) (hO2.reads.e hE3) hO3.reads (few_len raw) (by omega) (by omega)
  have hE4 := (hE02.trans hE3).alloc (.cells #[.slice A1 n1 c1, .slice A2 n2 c2, .slice A3 n3 c3] 22)
  obtain ⟨w4, hw4⟩ : ∃ w4, w3.alloc (.cells #[.slice A1 n1 c1, .slice A2 n2 c2, .slice A3 n3 c3] 22) = w4 := ⟨_, rfl⟩
  have hB4 : w3.heap.size < w4.heap.size := by rw [← hw4, World.size_alloc]; omega
  rw [hw4] at hRow hE4
  have HW4 := Lib.hid hw4
  have HRow := Lib.hid hRow
  have HE4 := Lib.hid hE4
  clear hw4 hRow hO1 hO2 hO3 hE1 hE2 hE3 hE02 hgq hlq hgq5 hlq5 HF HG0 HG5
  go_upto_region 2 with fail
  rw [HW4.out]
  clear HW4
  obtain ⟨_, _, _, e1, hbb, e2, _, d0, d1, d2⟩ := (HB0.out.e hE4).get (i := 0) (by omega)
  injection e1 with e1; injection e1 with e1 e1'; subst e1 e1'
  simp at e2; subst e2
  simp only [Nat.zero_mul, Nat.zero_add] at d0 d1 d2
  clear hE4
  go_region_held3 (fun w' => w4.heap.size ≤ w'.heap.size ∧ ∀ b o, b < w4.heap.size → w'.cell? ⟨b, o, none⟩ = w4.cell? ⟨b, o, none⟩)
    (first | exact keepE ((E.refl _).drew) | exact keepE hEa | exact keepE (((E.refl _).drew).alloc _) | exact keepE (hEa.alloc _) | exact sKeepK (by assumption) ((E.refl _).alloc _) | exact sKeepB (by assumption) (by assumption))
    (first
      | (go_at_call 13; refine (HG9.out _ (HE4.out.trans (by first | exact (E.refl _).drew | exact ((E.refl _).drew).alloc _))).mono ?_; rintro e w5 ⟨q9, hlq9, hgq9, A9, n9, c9, rfl, hO9, hE9⟩; first | (have hEa := ((E.refl w4).drew).trans hE9) | (have hEa := (((E.refl w4).drew).alloc _).trans hE9))
      | (refine step_appL (by rfl) _ _ (by rfl) w4.heap.size _ _ _ _ (by rfl) (by first | exact own_one hxx (by first | exact Nat.le_refl _ | exact hEa.le) | exact (own_one hxx (Nat.le_refl _)).e (((E.refl _).drew).trans hE9)) A9 n9 c9 q9 (by rfl) (by first | exact hO9.reads | exact hO9.reads.e ((E.refl _).alloc _)) (by have := hO9.1; omega) (by first | exact hEa.le | exact (hEa.alloc _).le) ?_; intro Ab cb w6 hOb hGb hBb horb))
  all_goals (
    rename_i hHd
    clear hHd
    have hE46 : E w4 w6 := by first | exact hEa.up hBb | exact (hEa.alloc _).up hBb
    have hBB : w3.heap.size < w6.heap.size := Nat.lt_of_lt_of_le hB4 hE46.le
    have Rb := hOb.reads
    obtain ⟨nb, hnb⟩ : ∃ nb, 1 + n9 = nb := ⟨_, rfl⟩
    rw [hnb] at Rb ⊢
    clear hnb
    have HRow6 := Lib.hid (HRow.out.e hB4 hE46)
    have HE6 := Lib.hid (HE0.out.trans (HE4.out.trans hE46))
    have hm63 := Rb.n63
    have HRb := Lib.hid Rb
    clear hOb hGb hBb horb hO9 hE9 hEa hE46 Rb d0 d1 d2 hgq9 hlq9
    go_wp2_with fail
    go_loopw [9] (fun ti wr => ∃ i : Nat, i ≤ 3 ∧ ti = .int .i64 i ∧ E w6 wr) (fun ti _ => 3 - (intOf ti).toNat)
    case atStart => exact ⟨0, by omega, rfl, E.refl _⟩
    case round =>
      obtain ⟨i, hi, rfl, hE⟩ := hrel
      by_cases hlt : i < 3
      · have hiI : (i : Int) < 3 := by omega
        have hi0 : (0 : Int) ≤ (i : Int) := by omega
        obtain ⟨Ai, ni, ci, qi, cB, hLi, hli⟩ := HRow6.out.e hBB hE i hlt
        have hBr := Nat.lt_of_lt_of_le hBB hE.le
        have HLi := Lib.hid hLi
        have HV1 := Lib.hid (fun W (hW : E wr W) => valid_c Ai ni ci qi W (hLi.e hW))
        have HV2 := Lib.hid (fun W (hW : E wr W) => refValid_c Ai ni ci qi W (hLi.e hW))
        have HT1 := Lib.hid (fun W (hW : E wr W) => total_c Ai ni ci qi W (hLi.e hW))
        have HT2 := Lib.hid (fun W (hW : E wr W) => refTotal_c Ai ni ci qi W (hLi.e hW))
        have HCs := Lib.hid (fun W (hW : E wr W) => (hW.cell (p := ⟨w3.heap.size, i, none⟩) hBr).trans cB)
        have HEr := Lib.hid hE
        generalize validB qi = vb at *
        generalize totalS qi = T at *
        have hEa := (E.refl wr).drew
        clear hLi hE
        obtain ⟨w7, hw7⟩ : ∃ w7, w7 = wr := ⟨_, rfl⟩
        subst hw7
        go_upto_region 6 with fail
        go_region_held3 (fun w' => w7.heap.size ≤ w'.heap.size ∧ ∀ b o, b < w7.heap.size → w'.cell? ⟨b, o, none⟩ = w7.cell? ⟨b, o, none⟩) (exact keepE hEa)
          (first
            | (go_at_call 22; refine (HV1.out _ hEa).mono ?_; rintro e wn ⟨rfl, hEn⟩; replace hEa := hEa.trans hEn)
            | (go_at_call 23; refine (HV2.out _ hEa).mono ?_; rintro e wn ⟨rfl, hEn⟩; replace hEa := hEa.trans hEn)
            | (go_at_call 24; refine (HT1.out _ hEa).mono ?_; rintro e wn ⟨rfl, hEn⟩; replace hEa := hEa.trans hEn)
            | (go_at_call 15; refine (HT2.out _ hEa).mono ?_; rintro e wn ⟨rfl, hEn⟩; replace hEa := hEa.trans hEn))
        all_goals (
          rename_i hHd
          clear hHd
          have HE7n := Lib.hid hEa
          clear hEa
          go_wp2_with fail
          go_loopw [10] (fun tk wr => ∃ k : Nat, k ≤ nb ∧ tk = .int .i64 k ∧ E w7 wr) (fun tk _ => nb - (intOf tk).toNat)
          case atStart => exact ⟨0, by omega, rfl, HE7n.out⟩
          case round =>
            obtain ⟨k, hk, rfl, hEk⟩ := hrel
            by_cases hltk : k < nb
            · obtain ⟨bb, oo, y, rfl, hb, hy, hwy, d0, d1, d2⟩ := (HRb.out.e (HEr.out.trans hEk)).get hltk
              have hkI : (k : Int) < (nb : Int) := by omega
              have hk0 : (0 : Int) ≤ (k : Int) := by omega
              clear cB
              have cB := HCs.out wr hEk
              have hBk := Nat.lt_of_lt_of_le hBr hEk.le
              have HP1 := Lib.hid (fun W (hW : E wr W) => lPut_c y Ai ni ci qi W ((HLi.out.e hEk).e hW) hwy)
              have HP2 := Lib.hid (fun W (hW : E wr W) => refPut_c y Ai ni ci qi W ((HLi.out.e hEk).e hW) hwy)
              generalize putS qi y = ps at *
              obtain ⟨yf, ya, yn⟩ := y
              simp only at d0 d1 d2
              unfold ltV at HP1 HP2
              have HEk := Lib.hid hEk
              have hEa := (E.refl wr).drew
              clear hy hEk
              go_upto_region 11 with fail
              go_region_held3 (fun w' => wr.heap.size ≤ w'.heap.size ∧ ∀ b o, b < wr.heap.size → w'.cell? ⟨b, o, none⟩ = wr.cell? ⟨b, o, none⟩) (exact keepE hEa)
                (first
                  | (go_at_call 25; refine (HP1.out _ hEa).mono ?_; rintro e wn ⟨A6, n6, c6, rfl, hO6, hEn⟩; replace hEa := hEa.trans hEn; have R6 := hO6.reads; try (replace R7 := R7.e hEn))
                  | (go_at_call 26; refine (HP2.out _ hEa).mono ?_; rintro e wn ⟨A7, n7, c7, rfl, hO7, hEn⟩; replace hEa := hEa.trans hEn; have R7 := hO7.reads; try (replace R6 := R6.e hEn))
                  | (go_at_call 18; refine (same_self _ _ _ _ _ _ _ _ R6 R7).mono ?_; rintro e wn ⟨rfl, hEn⟩; replace hEa := hEa.trans hEn))
              all_goals (
                rename_i hHd
                clear hHd
                have HEl := Lib.hid (HEk.out.trans hEa)
                clear hEa
                go_wp2_with fail
                go_roundw
                case rel => exact ⟨k + 1, by omega, by go_num, HEl.out⟩
                case measure => simp [intOf]; omega)
            · go_wp2_with fail
              go_roundw
              case rel => exact ⟨i + 1, by omega, by go_num, HEr.out.trans hEk⟩
              case measure => simp [intOf]; omega)
      · go_wp2_with fail
        refine (lives14_c _).mono ?_
        rintro e w9 ⟨rfl, hE9⟩
        go_wp2_with fail
        go_ret
        exact ⟨rfl, HE6.out.trans (hE.trans hE9)⟩)
end Go.Proofs.Ytgbamgijpgjmgaa
