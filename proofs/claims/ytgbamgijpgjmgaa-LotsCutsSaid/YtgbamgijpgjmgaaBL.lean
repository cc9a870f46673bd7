/- Lemmas of the claim, joined: WL WI. No condition. -/
import Derived.Test.YtgbamgijpgjmgaaBB
import Derived.Test.YtgbamgijpgjmgaaBA
import Derived.Test.YtgbamgijpgjmgaaBD
import Derived.Test.YtgbamgijpgjmgaaBK
/- Pick, few, Has; the generator of lots: some list of possible lots. -/
namespace Go.Proofs.Ytgbamgijpgjmgaa
open Go.RowKit

def pk (l : List Int) (i : Nat) (m : Int) : Int := match l[i]? with | some x => x % m | none => 0
theorem pk_range (l : List Int) (i : Nat) {m : Int} (hm : 0 < m) : 0 ≤ pk l i m ∧ pk l i m < m := by
  unfold pk
  split
  · exact ⟨Int.emod_nonneg _ (by omega), Int.emod_lt_of_pos _ hm⟩
  · exact ⟨Int.le_refl _, hm⟩
set_option maxHeartbeats 1000000 in
theorem pick13_c (A : Option Addr) (n c : Nat) (l : List Int) (i : Nat) (m : Int) (w : World) (h : Nums .i64 w A n c l) (hi : i ≤ 1000000) (hm : 0 < m) (hm2 : m ≤ 9223372036854775807) :
    Calls Try.prog 48 #[.slice A n c, .int .i64 i, .int .i64 m] w fun e w' => e = .returned (.int .i64 (pk l i m)) ∧ E w w' := by
  have hnn := h.n63
  have d0 : decide ((i : Int) < 0) = false := decide_eq_false (by omega)
  have d2 : decide (m < 1) = false := decide_eq_false (by omega)
  by_cases hlt : (i : Int) < (n : Int)
  · obtain ⟨b, o, x, rfl, hb, hx, hwx, hcx⟩ := h.get (i := i) (by omega)
    have d1 : decide ((n : Int) ≤ (i : Int)) = false := decide_eq_false (by omega)
    have hi0 : (0 : Int) ≤ (i : Int) := by omega
    have HF := Lib.hid (show pk l i m = x % m by rw [pk, hx])
    have HA := Lib.hid (fun w => aroundR x m w (wf_i64 hwx).1 (wf_i64 hwx).2 hm hm2)
    clear hx
    go_enter Try.func48, Try.ntmps48
    go_wp2_with fail
    refine (HA.out _).mono ?_
    rintro e w' ⟨rfl, rfl⟩
    go_wp2_with fail
    go_ret
    exact ⟨ret_int HF.out.symm, E.refl _⟩
  · have HF := Lib.hid (show pk l i m = 0 by rw [pk, List.getElem?_eq_none (by rw [h.len]; omega)])
    have d1 : decide ((n : Int) ≤ (i : Int)) = true := decide_eq_true (by omega)
    go_enter Try.func48, Try.ntmps48
    go_wp2_with fail
    go_ret
    exact ⟨ret_int HF.out.symm, E.refl _⟩

set_option maxHeartbeats 4000000 in
set_option maxRecDepth 100000 in
theorem few_c (A : Option Addr) (n c : Nat) (l : List Lt) (w : World) (h : LotsAt w A n c l) : Calls Try.prog 12 #[.slice A n c] w (RetL w (l.take 5)) := by
  have hm63 := h.n63
  have hc63 := h.c63
  have hcap := h.cap
  have hN : ∀ k, k = min n 5 → LotsAt w A k c (l.take 5) := fun k hk => by
    have hlen := h.len
    refine ⟨by rw [List.length_take]; omega, by omega, h.mx, fun x hx => h.wf x (List.mem_of_mem_take hx), fun h0 => ?_⟩
    obtain ⟨b, o, h1, h2, h3⟩ := h.at_ (by omega)
    refine ⟨b, o, h1, h2, fun i x hi => h3 i x ?_⟩
    rw [List.getElem?_take] at hi
    split at hi
    · exact hi
    · cases hi
  have hE := (E.refl w).alloc (.cells #[] 39)
  have hO := OwnL.empty w w.heap.size (Nat.le_refl _)
  have hle := hE.le
  have HE := Lib.hid hE
  by_cases h5 : (5 : Int) < (n : Int)
  · have hT1 := (hN (min (n : Int) 5).toNat (by omega)).e hE
    have hT2 := (hN 5 (by omega)).e hE
    have hq1 : 0 + (min (n : Int) 5).toNat ≤ 1099511627776 := by omega
    have hq2 : 0 + 5 ≤ 1099511627776 := by omega
    clear h hN hE
    go_enter Try.func12, Try.ntmps12
    go_wp2_with (first
      | (at_builtin; refine wpList_appL _ rfl _ _ rfl w.heap.size _ 0 _ [] rfl hO _ _ _ _ rfl hT1 hq1 hle ?_; intro Aq cq w3 hO3 hG3 hB3 hor3)
      | (at_builtin; refine wpList_appL _ rfl _ _ rfl w.heap.size _ 0 _ [] rfl hO _ _ _ _ rfl hT2 hq2 hle ?_; intro Aq cq w3 hO3 hG3 hB3 hor3))
    go_ret
    exact RetL.mk_ rfl (by first | exact hO3 | (rw [Nat.zero_add, List.nil_append] at hO3; exact hO3)) (HE.out.up hB3)
  · have hT1 := (hN (min (n : Int) 5).toNat (by omega)).e hE
    have hT2 := (hN n (by omega)).e hE
    have hq1 : 0 + (min (n : Int) 5).toNat ≤ 1099511627776 := by omega
    have hq2 : 0 + n ≤ 1099511627776 := by omega
    clear h hN hE
    go_enter Try.func12, Try.ntmps12
    go_wp2_with (first
      | (at_builtin; refine wpList_appL _ rfl _ _ rfl w.heap.size _ 0 _ [] rfl hO _ _ _ _ rfl hT1 hq1 hle ?_; intro Aq cq w3 hO3 hG3 hB3 hor3)
      | (at_builtin; refine wpList_appL _ rfl _ _ rfl w.heap.size _ 0 _ [] rfl hO _ _ _ _ rfl hT2 hq2 hle ?_; intro Aq cq w3 hO3 hG3 hB3 hor3))
    go_ret
    exact RetL.mk_ rfl (by first | exact hO3 | (rw [Nat.zero_add, List.nil_append] at hO3; exact hO3)) (HE.out.up hB3)

set_option maxHeartbeats 4000000 in
set_option maxRecDepth 100000 in
theorem has_c (f a : Int) (A : Option Addr) (n c : Nat) (l : List Lt) (w : World) (h : LotsAt w A n c l) (hl : ∀ x ∈ l, possB x = true) : Calls Try.prog 41 #[.slice A n c, .int .i64 f, .int .i64 a] w (RetK w (hasB l (f, a))) := by
  have hm63 := h.n63
  have HL := Lib.hid h.len
  have HP := Lib.hid hl
  have HB := Lib.hid (show hasB l (f, a) = (l.drop 0).any fun x => decide (x.1 = f) && (decide (x.2.1 ≤ a) && decide (a < x.2.1 + x.2.2)) by rw [List.drop_zero]; rfl)
  have HD := Lib.hid (fun k x (hx : l[k]? = some x) => (show ((l.drop k).any fun x => decide (x.1 = f) && (decide (x.2.1 ≤ a) && decide (a < x.2.1 + x.2.2))) = ((decide (x.1 = f) && (decide (x.2.1 ≤ a) && decide (a < x.2.1 + x.2.2))) || (l.drop (k + 1)).any fun x => decide (x.1 = f) && (decide (x.2.1 ≤ a) && decide (a < x.2.1 + x.2.2))) by
    obtain ⟨hk, rfl⟩ := List.getElem?_eq_some_iff.1 hx
    rw [List.drop_eq_getElem_cons hk, List.any_cons]))
  have HZ := Lib.hid (fun k (hk : n ≤ k) => (show ((l.drop k).any fun x => decide (x.1 = f) && (decide (x.2.1 ≤ a) && decide (a < x.2.1 + x.2.2))) = false by rw [List.drop_eq_nil_of_le (by rw [h.len]; exact hk)]; rfl))
  clear hl
  generalize hasB l (f, a) = r at *
  go_enter Try.func41, Try.ntmps41
  go_wp2_with fail
  go_loopw [7] (fun ti wr => ∃ k : Nat, k ≤ n ∧ ti = .int .i64 k ∧ E w wr ∧ Hid (r = (l.drop k).any fun x => decide (x.1 = f) && (decide (x.2.1 ≤ a) && decide (a < x.2.1 + x.2.2)))) (fun ti _ => n - (intOf ti).toNat)
  case atStart => exact ⟨0, Nat.zero_le _, rfl, E.refl _, HB.out⟩
  case round =>
    obtain ⟨k, hk, rfl, hE, hV⟩ := hrel
    by_cases hlt : k < n
    · obtain ⟨b, o, x, rfl, hb, hx, hwx, c0, c1, c2⟩ := (h.e hE).get hlt
      have hpx := possB_iff.1 (HP.out x (List.mem_of_getElem? hx))
      have hS := HD.out k x hx
      have hkI : (k : Int) < (n : Int) := by omega
      have hk0 : (0 : Int) ≤ (k : Int) := by omega
      have hwr : IntKind.i64.wrap (x.2.1 + x.2.2) = x.2.1 + x.2.2 := by rw [IntKind.wrap_i64]; omega
      obtain ⟨xf, xa, xn⟩ := x
      simp only at c0 c1 c2 hpx hS hwr
      clear hx
      by_cases q1 : xf = f
      · have q1s := q1.symm
        subst q1s
        by_cases q2 : xa ≤ a
        · have s2 : decide (xa ≤ a) = true := by simpa using q2
          by_cases q3 : a < xa + xn
          · have s3 : decide (a < xa + xn) = true := by simpa using q3
            have HF := Lib.hid (show r = true by rw [hV.out, hS]; simp [q2, q3])
            clear hS hV q3
            go_upto_region 4 with fail
            (refine wp_region_quiet_lit (by kernel_rfl) (by kernel_rfl) ?_; (repeat (first | ((with_reducible refine wpQuiet_step (fun K hK => ?_)); go_simp; (with_reducible refine hK _ ?_); clear hK K) | ((with_reducible refine wpQuiet_off (by kernel_rfl) (fun K hK => ?_)); go_simp; (with_reducible refine hK _ ?_); clear hK K))); (with_reducible refine wpQuiet_nil ?_); intro _ hw'; obtain ⟨nq, hw''⟩ := hw'; subst hw'')
            try rw [s3]
            go_wp2_with fail
            go_ret
            exact ⟨ret_bool HF.out.symm, hE.drewN _⟩
          · have s3 : decide (a < xa + xn) = false := by simpa using q3
            have HF := Lib.hid (show r = (l.drop (k + 1)).any fun x => decide (x.1 = f) && (decide (x.2.1 ≤ a) && decide (a < x.2.1 + x.2.2)) by rw [hV.out, hS]; simp only [s3, Bool.and_false, Bool.false_or])
            clear hS hV
            go_upto_region 4 with fail
            (refine wp_region_quiet_lit (by kernel_rfl) (by kernel_rfl) ?_; (repeat (first | ((with_reducible refine wpQuiet_step (fun K hK => ?_)); go_simp; (with_reducible refine hK _ ?_); clear hK K) | ((with_reducible refine wpQuiet_off (by kernel_rfl) (fun K hK => ?_)); go_simp; (with_reducible refine hK _ ?_); clear hK K))); (with_reducible refine wpQuiet_nil ?_); intro _ hw'; obtain ⟨nq, hw''⟩ := hw'; subst hw'')
            try rw [s3]
            go_wp2_with fail
            go_roundw
            case rel => exact ⟨k + 1, by omega, by go_num, hE.drewN _, HF.out⟩
            case measure => simp [intOf]; omega
        · have s2 : decide (xa ≤ a) = false := by simpa using q2
          have HF := Lib.hid (show r = (l.drop (k + 1)).any fun x => decide (x.1 = f) && (decide (x.2.1 ≤ a) && decide (a < x.2.1 + x.2.2)) by rw [hV.out, hS]; simp only [s2, Bool.and_false, Bool.false_and, Bool.false_or])
          clear hS hV
          go_upto_region 4 with fail
          (refine wp_region_quiet_lit (by kernel_rfl) (by kernel_rfl) ?_; (repeat (first | ((with_reducible refine wpQuiet_step (fun K hK => ?_)); go_simp; (with_reducible refine hK _ ?_); clear hK K) | ((with_reducible refine wpQuiet_off (by kernel_rfl) (fun K hK => ?_)); go_simp; (with_reducible refine hK _ ?_); clear hK K))); (with_reducible refine wpQuiet_nil ?_); intro _ hw'; obtain ⟨nq, hw''⟩ := hw'; subst hw'')
          try rw [s2]
          go_wp2_with fail
          go_roundw
          case rel => exact ⟨k + 1, by omega, by go_num, hE.drewN _, HF.out⟩
          case measure => simp [intOf]; omega
      · have s1 : (xf == f) = false := by simpa using q1
        have HF := Lib.hid (show r = (l.drop (k + 1)).any fun x => decide (x.1 = f) && (decide (x.2.1 ≤ a) && decide (a < x.2.1 + x.2.2)) by rw [hV.out, hS]; simp only [q1, decide_false, Bool.false_and, Bool.false_or])
        clear hS hV
        go_upto_region 4 with fail
        (refine wp_region_quiet_lit (by kernel_rfl) (by kernel_rfl) ?_; (repeat (first | ((with_reducible refine wpQuiet_step (fun K hK => ?_)); go_simp; (with_reducible refine hK _ ?_); clear hK K) | ((with_reducible refine wpQuiet_off (by kernel_rfl) (fun K hK => ?_)); go_simp; (with_reducible refine hK _ ?_); clear hK K))); (with_reducible refine wpQuiet_nil ?_); intro _ hw'; obtain ⟨nq, hw''⟩ := hw'; subst hw'')
        go_wp2_with fail
        go_roundw
        case rel => exact ⟨k + 1, by omega, by go_num, hE.drewN _, HF.out⟩
        case measure => simp [intOf]; omega
    · have HF := Lib.hid (show r = false by rw [hV.out, HZ.out k (by omega)])
      go_wp2_with fail
      go_ret
      exact ⟨ret_bool HF.out.symm, hE⟩
theorem cells3f {w : World} {b : Nat} {x y z : Value} {T : TypeId} (h : w.heap[b]? = some (.cells #[x, y, z] T (0, 0))) : w.cell? ⟨b, 0, none⟩ = some x ∧ w.cell? ⟨b, 1, none⟩ = some y ∧ w.cell? ⟨b, 2, none⟩ = some z ∧ w.frozen? ⟨b, 1, none⟩ = false ∧ w.frozen? ⟨b, 2, none⟩ = false :=
  ⟨cell_of_row _ _ 0 _ _ _ h, cell_of_row _ _ 1 _ _ _ h, cell_of_row _ _ 2 _ _ _ h, frozen_of_row _ _ 1 _ _ h, frozen_of_row _ _ 2 _ _ h⟩
theorem cells3g {w : World} {b : Nat} {x y z : Value} {T : TypeId} (h : w.heap[b]? = some (.cells #[x, y, z] T (0, 0))) : w.cell? ⟨b, 0, none⟩ = some x ∧ w.cell? ⟨b, 1, none⟩ = some y ∧ w.cell? ⟨b, 2, none⟩ = some z ∧ w.frozen? ⟨b, 0, none⟩ = false ∧ w.frozen? ⟨b, 1, none⟩ = false ∧ w.frozen? ⟨b, 2, none⟩ = false :=
  ⟨cell_of_row _ _ 0 _ _ _ h, cell_of_row _ _ 1 _ _ _ h, cell_of_row _ _ 2 _ _ _ h, frozen_of_row _ _ 0 _ _ h, frozen_of_row _ _ 1 _ _ h, frozen_of_row _ _ 2 _ _ h⟩

/-- a list that the generator may give -/
def GenL (l : List Lt) : Prop := ∀ x ∈ l, possB x = true ∧ x.1 ≤ 3
theorem genL_valid {l : List Lt} (h : GenL l) (hl : l.length ≤ 7) : validB l = true := validB_iff.2 ⟨by omega, fun x hx => (h x hx).1⟩
set_option maxHeartbeats 16000000 in
set_option maxRecDepth 100000 in
theorem lots14_c (at_ : Nat) (A : Option Addr) (n c : Nat) (l : List Int) (w : World) (h : Nums .i64 w A n c l) (hat : at_ ≤ 100) :
    Calls Try.prog 13 #[.slice A n c, .int .i64 at_] w fun e w' => ∃ l', l'.length ≤ 7 ∧ GenL l' ∧ RetL w l' e w' := by
  have HPK := Lib.hid (fun (i : Nat) (m : Int) (W : World) (hE : E w W) (hi : i ≤ 1000000) (h0 : 0 < m) (h1 : m ≤ 9223372036854775807) => pick13_c A n c l i m W (h.e hE) hi h0 h1)
  obtain ⟨cnt, hcnt⟩ : ∃ cnt, pk l at_ 8 = cnt := ⟨_, rfl⟩
  have hcr := pk_range l at_ (m := 8) (by omega)
  rw [hcnt] at hcr
  obtain ⟨cr0, cr1⟩ := hcr
  have HCN := Lib.hid hcnt
  have hat0 : (0 : Int) ≤ (at_ : Int) := by omega
  have hatI : (at_ : Int) ≤ 100 := by omega
  clear hcnt
  go_enter Try.func13, Try.ntmps13
  go_wp2_with fail
  go_loopw [5, 6] (fun t5 ti wr => ∃ (k c' : Nat) (A' : Option Addr) (q : List Lt), (k : Int) ≤ cnt ∧ ti = .int .i64 k ∧ t5 = .slice A' k c' ∧ OwnL wr w.heap.size A' k c' q ∧ E w wr ∧ Hid (GenL q)) (fun _ ti _ => 8 - (intOf ti).toNat)
  case atStart => exact ⟨0, 0, none, [], by omega, rfl, rfl, OwnL.nil _ _, E.refl _, by intro x hx; cases hx⟩
  case round =>
    obtain ⟨k, c', A', q, hk, rfl, rfl, hO, hE, hq⟩ := hrel
    go_wp2_with fail
    refine (HPK.out at_ 8 _ hE (by omega) (by omega) (by omega)).mono ?_
    rintro e w1 ⟨rfl, hE1⟩
    rw [HCN.out]
    have hO1 := hO.e hE1
    have hEw1 := hE.trans hE1
    clear hO hE hE1
    by_cases hlt : (k : Int) < cnt
    · have hk7 : (k : Int) ≤ 7 := by omega
      have hk0 : (0 : Int) ≤ (k : Int) := by omega
      have HQ1 := Lib.hid (fun W hE => HPK.out (at_ + 3 * k + 1) 4 W hE (by omega) (by omega) (by omega))
      have HQ2 := Lib.hid (fun W hE => HPK.out (at_ + 3 * k + 2) 12 W hE (by omega) (by omega) (by omega))
      have HQ3 := Lib.hid (fun W hE => HPK.out (at_ + 3 * k + 3) 5 W hE (by omega) (by omega) (by omega))
      have HQ4 := Lib.hid (fun W hE => HPK.out (at_ + 3 * k + 3) 29 W hE (by omega) (by omega) (by omega))
      have HQ5 := Lib.hid (fun W hE => HPK.out (at_ + 3 * k + 2) 5 W hE (by omega) (by omega) (by omega))
      rw [show ((at_ + 3 * k + 1 : Nat) : Int) = (at_ : Int) + 3 * (k : Int) + 1 by omega] at HQ1
      rw [show ((at_ + 3 * k + 2 : Nat) : Int) = (at_ : Int) + 3 * (k : Int) + 2 by omega] at HQ2 HQ5
      rw [show ((at_ + 3 * k + 3 : Nat) : Int) = (at_ : Int) + 3 * (k : Int) + 3 by omega] at HQ3 HQ4
      have r1 := pk_range l (at_ + 3 * k + 1) (m := 4) (by omega)
      have r2 := pk_range l (at_ + 3 * k + 2) (m := 12) (by omega)
      have r3 := pk_range l (at_ + 3 * k + 3) (m := 5) (by omega)
      generalize pk l (at_ + 3 * k + 1) 4 = v1 at *
      generalize pk l (at_ + 3 * k + 2) 12 = v2 at *
      generalize pk l (at_ + 3 * k + 3) 5 = v3 at *
      generalize pk l (at_ + 3 * k + 3) 29 = v4 at *
      generalize pk l (at_ + 3 * k + 2) 5 = v5 at *
      go_wp2_with fail
      refine (HQ1.out _ hEw1).mono ?_
      rintro e w2 ⟨rfl, hE2⟩
      have hEw2 := hEw1.trans hE2
      have hO2 := hO1.e hE2
      clear hEw1 hO1 hE2
      go_wp2_with fail
      refine (HQ2.out _ hEw2).mono ?_
      rintro e w3 ⟨rfl, hE3⟩
      have hEw3 := hEw2.trans hE3
      have hO3 := hO2.e hE3
      clear hEw2 hO2 hE3
      go_wp2_with fail
      refine (HQ3.out _ hEw3).mono ?_
      rintro e w4 ⟨rfl, hE4⟩
      have hEw4 := hEw3.trans hE4
      have hO4 := hO3.e hE4
      clear hEw3 hO3 hE4
      obtain ⟨m0, hm0⟩ : ∃ m0, 1 + v3 = m0 := ⟨_, rfl⟩
      have hm1 : 1 ≤ m0 ∧ m0 ≤ 5 := by omega
      have HM0 := Lib.hid hm0
      have hwm : IntKind.i64.wrap (1 + v3) = 1 + v3 := by rw [IntKind.wrap_i64]; omega
      clear hm0
      go_upto_region 6 with fail
      rw [HM0.out]
      clear hwm
      have hb5 := heap_alloc_new w4 (.cells #[.int .i64 v1, .int .i64 v2, .int .i64 m0] 39)
      have hE5 : E w4 (w4.alloc (.cells #[.int .i64 v1, .int .i64 v2, .int .i64 m0] 39)) := (E.refl _).alloc _
      obtain ⟨w5, hw5⟩ : ∃ w5, w4.alloc (.cells #[.int .i64 v1, .int .i64 v2, .int .i64 m0] 39) = w5 := ⟨_, rfl⟩
      rw [hw5] at hb5 hE5 ⊢
      have hEw5 := hEw4.trans hE5
      have hO5 := hO4.e hE5
      have hB4 : w.heap.size ≤ w4.heap.size := hEw4.le
      have HOB := Lib.hid (show ∀ b, ob A' = some b → b ≠ w4.heap.size from fun b hb e => by have := (hO4.ltN b hb).2; omega)
      clear hw5 hEw4 hO4 hE5
      go_wp2_with fail
      refine (HQ4.out _ hEw5).mono ?_
      rintro e w6 ⟨rfl, hE6⟩
      have hb6 : w6.heap[w4.heap.size]? = _ := (hE6.block (lt_blk hb5)).trans hb5
      have hEw6 := hEw5.trans hE6
      have hO6 := hO5.e hE6
      have hB6 := lt_blk hb6
      clear hEw5 hO5 hE6 hb5
      obtain ⟨c60, c61, c62, f61, f62⟩ := cells3f hb6
      by_cases z4 : v4 = 0
      · subst z4
        go_upto_region 8 with fail
        have hb7 : (w6.setCell ⟨w4.heap.size, 2, none⟩ (.int .i64 549755813888)).heap[w4.heap.size]? = some (.cells #[.int .i64 v1, .int .i64 v2, .int .i64 549755813888] 39 (0, 0)) := heap_setCell_same _ _ 2 _ _ _ hb6
        have hX7 : Ex (fun i => i = w4.heap.size) w6 (w6.setCell ⟨w4.heap.size, 2, none⟩ (.int .i64 549755813888)) := (Ex.refl (fun i => i = w4.heap.size) w6).setCell ⟨w4.heap.size, 2, none⟩ (.inr rfl) _
        have hE7 : E w (w6.setCell ⟨w4.heap.size, 2, none⟩ (.int .i64 549755813888)) := hEw6.setCell (p := ⟨w4.heap.size, 2, none⟩) hB4 _
        have hO7 := hO6.ex hX7 (fun b hb e => HOB.out b hb e)
        obtain ⟨w7, hw7⟩ : ∃ w7, w6.setCell ⟨w4.heap.size, 2, none⟩ (.int .i64 549755813888) = w7 := ⟨_, rfl⟩
        rw [hw7] at hb7 hE7 hO7 ⊢
        obtain ⟨m1, hm1'⟩ : ∃ m1 : Int, (549755813888 : Int) = m1 := ⟨_, rfl⟩
        have hmr : 1 ≤ m1 ∧ m1 ≤ 549755813888 := by omega
        rw [hm1'] at hb7
        clear hw7 hX7 hb6 hEw6 hO6 c60 c61 c62 f61 f62 hm1' hm1 HM0
        rcases snoc_cases q with rfl | ⟨s, p, rfl⟩
        · obtain rfl : k = 0 := by have := hO7.1; simpa using this.symm
          go_upto_region 12 with fail
          obtain ⟨a7, b7, d7, _⟩ := cells3f hb7
          have hB7 := lt_blk hb7
          have hxp : possB (v1, v2, m1) = true := possB_iff.2 (by simp only; omega)
          have hxw : WfL (v1, v2, m1) := wfL_of hxp (by simp only; omega)
          have hLn := lot_new (w := w7) hxw
          have hO9 := hO7.e ((E.refl w7).alloc (.cells #[.int .i64 v1, .int .i64 v2, .int .i64 m1] 39))
          have hba : w.heap.size ≤ (w7.alloc (.cells #[.int .i64 v1, .int .i64 v2, .int .i64 m1] 39)).heap.size := by rw [World.size_alloc]; have := hE7.le; omega
          have hE9 := hE7.alloc (.cells #[.int .i64 v1, .int .i64 v2, .int .i64 m1] 39)
          have hkq : 0 + 1 ≤ 1099511627776 := by omega
          have HG := Lib.hid (show GenL ([] ++ [(v1, v2, m1)]) from fun y hy => by
            rcases List.mem_append.1 hy with hy | hy
            · exact hq.out y hy
            · rw [List.mem_singleton] at hy; subst hy; exact ⟨hxp, by simp only; omega⟩)
          go_wp2_with (at_builtin; refine wpList_appL _ rfl _ _ rfl w.heap.size _ _ _ _ rfl hO9 _ 1 1 [(v1, v2, m1)] rfl hLn hkq hba ?_; intro A6 c6 w9 hO10 hG10 hB10 hor10)
          go_roundw
          case rel => exact ⟨0 + 1, c6, A6, _, by omega, by go_num, rfl, hO10, hE9.up hB10, HG.out⟩
          case measure => simp [intOf] <;> omega
        · obtain ⟨kk, hkk⟩ : ∃ kk, k = kk + 1 := ⟨s.length, by have := hO7.1; simpa using this.symm⟩
          have HKK := Lib.hid hkk
          have hkp : (0 : Int) < (k : Int) := by omega
          have hkn : ¬ (k : Int) ≤ 0 := by omega
          clear hkk
          have hEw7 := hE7
          go_wp2_with fail
          refine (HQ5.out _ hEw7).mono ?_
          rintro e w8 ⟨rfl, hE8⟩
          have hb8 : w8.heap[w4.heap.size]? = _ := (hE8.block (lt_blk hb7)).trans hb7
          have hE8' := hE7.trans hE8
          have hO8 := hO7.e hE8
          clear hEw7 hE7 hO7 hb7 hE8
          by_cases z5 : v5 = 0
          · subst z5
            obtain ⟨hs0, g, rfl, hg1, hg2, hpw, p0, p1, p2, pf⟩ := lots_last (k := kk) (by rw [← HKK.out]; exact hO8)
            have hpg := hq.out p (by simp)
            have hpp := possB_iff.1 hpg.1
            obtain ⟨c80, c81, c82, f80, f81, f82⟩ := cells3g hb8
            have hB8 := lt_blk hb8
            have hk1 : IntKind.i64.wrap ((k : Int) - 1) = (kk : Int) := by have := HKK.out; rw [IntKind.wrap_i64]; omega
            have hkkI : (kk : Int) < (k : Int) := by have := HKK.out; omega
            have hkk0 : (0 : Int) ≤ (kk : Int) := by omega
            have hgne : g ≠ w4.heap.size := HOB.out g rfl
            have hwrp : IntKind.i64.wrap (p.2.1 + p.2.2) = p.2.1 + p.2.2 := by rw [IntKind.wrap_i64]; omega
            obtain ⟨mi, hmi⟩ : ∃ mi, min (p.2.1 + p.2.2) 549755813888 = mi := ⟨_, rfl⟩
            have HM1 := Lib.hid hmi
            have HM2 := Lib.hid (show (if 549755813888 < p.2.1 + p.2.2 then 549755813888 else p.2.1 + p.2.2) = mi by split <;> omega)
            have hmi0 : 0 ≤ mi ∧ mi ≤ 549755813888 := by omega
            clear hmi
            obtain ⟨pf', pa, pn⟩ := p
            simp only at p0 p1 p2 hpg hpp hwrp HM1 HM2
            go_upto_region 11 with fail
            have hb9 : (w8.setCell ⟨w4.heap.size, 0, none⟩ (.int .i64 pf')).heap[w4.heap.size]? = some (.cells #[.int .i64 pf', .int .i64 v2, .int .i64 m1] 39 (0, 0)) := heap_setCell_same _ _ 0 _ _ _ hb8
            have hX9 : Ex (fun i => i = w4.heap.size) w8 (w8.setCell ⟨w4.heap.size, 0, none⟩ (.int .i64 pf')) := (Ex.refl (fun i => i = w4.heap.size) w8).setCell ⟨w4.heap.size, 0, none⟩ (.inr rfl) _
            have hE9 : E w (w8.setCell ⟨w4.heap.size, 0, none⟩ (.int .i64 pf')) := hE8'.setCell (p := ⟨w4.heap.size, 0, none⟩) hB4 _
            have hO9 := hO8.ex hX9 (fun b hb e => HOB.out b hb e)
            obtain ⟨w9, hw9⟩ : ∃ w9, w8.setCell ⟨w4.heap.size, 0, none⟩ (.int .i64 pf') = w9 := ⟨_, rfl⟩
            rw [hw9] at hb9 hE9 hO9 ⊢
            clear hw9 hX9 p0 p1 p2 pf c80 c81 c82 f80 f81 f82 hb8 hE8' hO8 hB8 hg2
            obtain ⟨_, g', e', hg1', hg2, _, p0, p1, p2, pf⟩ := lots_last (k := kk) (by rw [← HKK.out]; exact hO9)
            injection e' with e'; injection e' with e'; subst e'
            obtain ⟨c80, c81, c82, f80, f81, f82⟩ := cells3g hb9
            have hB8 := lt_blk hb9
            go_still_tail 15, (by kernel_rfl)
            go_upto_region 12 with fail
            first | rw [HM1.out] | rw [HM2.out]
            have hb7 : ((w9.setCell ⟨w4.heap.size, 1, none⟩ (.int .i64 mi)).drew).heap[w4.heap.size]? = some (.cells #[.int .i64 pf', .int .i64 mi, .int .i64 m1] 39 (0, 0)) := heap_setCell_same _ _ 1 _ _ _ hb9
            have hX10 : Ex (fun i => i = w4.heap.size) w9 ((w9.setCell ⟨w4.heap.size, 1, none⟩ (.int .i64 mi)).drew) := ((Ex.refl (fun i => i = w4.heap.size) w9).setCell ⟨w4.heap.size, 1, none⟩ (.inr rfl) _).drew
            have hE7 : E w ((w9.setCell ⟨w4.heap.size, 1, none⟩ (.int .i64 mi)).drew) := (hE9.setCell (p := ⟨w4.heap.size, 1, none⟩) hB4 _).drew
            have hO7 := hO9.ex hX10 (fun b hb e => HOB.out b hb e)
            obtain ⟨w10, hw10⟩ : ∃ w10, (w9.setCell ⟨w4.heap.size, 1, none⟩ (.int .i64 mi)).drew = w10 := ⟨_, rfl⟩
            rw [hw10] at hb7 hE7 hO7 ⊢
            clear hw10 hX10 p0 p1 p2 pf c80 c81 c82 f80 f81 f82 hb9 hE9 hO9 hB8 HM1 HM2
            obtain ⟨a7, b7, d7, _⟩ := cells3f hb7
            have hB7 := lt_blk hb7
            have hpg2 := hpg.2
            have hxp : possB (pf', mi, m1) = true := possB_iff.2 (by simp only; omega)
            have hxw : WfL (pf', mi, m1) := wfL_of hxp (by simp only; omega)
            have hLn := lot_new (w := w10) hxw
            have hOz := hO7.e ((E.refl w10).alloc (.cells #[.int .i64 pf', .int .i64 mi, .int .i64 m1] 39))
            have hba : w.heap.size ≤ (w10.alloc (.cells #[.int .i64 pf', .int .i64 mi, .int .i64 m1] 39)).heap.size := by rw [World.size_alloc]; have := hE7.le; omega
            have hEz := hE7.alloc (.cells #[.int .i64 pf', .int .i64 mi, .int .i64 m1] 39)
            have hkq : k + 1 ≤ 1099511627776 := by omega
            have HG := Lib.hid (show GenL ((s ++ [(pf', pa, pn)]) ++ [(pf', mi, m1)]) from fun y hy => by
              rcases List.mem_append.1 hy with hy | hy
              · exact hq.out y hy
              · rw [List.mem_singleton] at hy; subst hy; exact ⟨hxp, by simp only; omega⟩)
            clear hpp hpg hpg2
            go_wp2_with (at_builtin; refine wpList_appL _ rfl _ _ rfl w.heap.size _ _ _ _ rfl hOz _ 1 1 [(pf', mi, m1)] rfl hLn hkq hba ?_; intro A6 c6 wz hO10 hG10 hB10 hor10)
            go_roundw
            case rel => exact ⟨k + 1, c6, A6, _, by omega, by go_num, rfl, hO10, hEz.up hB10, HG.out⟩
            case measure => simp [intOf] <;> omega
          · have s5 : (v5 == 0) = false := by simpa using z5
            have hE7 := hE8'
            have hO7 := hO8
            have hb7 := hb8
            go_upto_region 12 with fail
            obtain ⟨a7, b7, d7, _⟩ := cells3f hb7
            have hB7 := lt_blk hb7
            have hxp : possB (v1, v2, m1) = true := possB_iff.2 (by simp only; omega)
            have hxw : WfL (v1, v2, m1) := wfL_of hxp (by simp only; omega)
            have hLn := lot_new (w := w8) hxw
            have hO9 := hO7.e ((E.refl w8).alloc (.cells #[.int .i64 v1, .int .i64 v2, .int .i64 m1] 39))
            have hba : w.heap.size ≤ (w8.alloc (.cells #[.int .i64 v1, .int .i64 v2, .int .i64 m1] 39)).heap.size := by rw [World.size_alloc]; have := hE7.le; omega
            have hE9 := hE7.alloc (.cells #[.int .i64 v1, .int .i64 v2, .int .i64 m1] 39)
            have hkq : k + 1 ≤ 1099511627776 := by omega
            have HG := Lib.hid (show GenL ((s ++ [p]) ++ [(v1, v2, m1)]) from fun y hy => by
              rcases List.mem_append.1 hy with hy | hy
              · exact hq.out y hy
              · rw [List.mem_singleton] at hy; subst hy; exact ⟨hxp, by simp only; omega⟩)
            go_wp2_with (at_builtin; refine wpList_appL _ rfl _ _ rfl w.heap.size _ _ _ _ rfl hO9 _ 1 1 [(v1, v2, m1)] rfl hLn hkq hba ?_; intro A6 c6 w9 hO10 hG10 hB10 hor10)
            go_roundw
            case rel => exact ⟨k + 1, c6, A6, _, by omega, by go_num, rfl, hO10, hE9.up hB10, HG.out⟩
            case measure => simp [intOf] <;> omega
      · have s4 : (v4 == 0) = false := by simpa using z4
        have hb7 := hb6
        have hE7 := hEw6
        have hO7 := hO6
        go_upto_region 8 with fail
        obtain ⟨w7, hw7⟩ : ∃ w7, w6 = w7 := ⟨_, rfl⟩
        obtain ⟨m1, hm1'⟩ : ∃ m1 : Int, m0 = m1 := ⟨_, rfl⟩
        have hmr : 1 ≤ m1 ∧ m1 ≤ 549755813888 := by omega
        rw [hw7] at hb7 hE7 hO7 ⊢
        rw [hm1'] at hb7
        clear hw7 hb6 hEw6 hO6 c60 c61 c62 f61 f62 hm1' hm1 HM0
        rcases snoc_cases q with rfl | ⟨s, p, rfl⟩
        · obtain rfl : k = 0 := by have := hO7.1; simpa using this.symm
          go_upto_region 12 with fail
          obtain ⟨a7, b7, d7, _⟩ := cells3f hb7
          have hB7 := lt_blk hb7
          have hxp : possB (v1, v2, m1) = true := possB_iff.2 (by simp only; omega)
          have hxw : WfL (v1, v2, m1) := wfL_of hxp (by simp only; omega)
          have hLn := lot_new (w := w7) hxw
          have hO9 := hO7.e ((E.refl w7).alloc (.cells #[.int .i64 v1, .int .i64 v2, .int .i64 m1] 39))
          have hba : w.heap.size ≤ (w7.alloc (.cells #[.int .i64 v1, .int .i64 v2, .int .i64 m1] 39)).heap.size := by rw [World.size_alloc]; have := hE7.le; omega
          have hE9 := hE7.alloc (.cells #[.int .i64 v1, .int .i64 v2, .int .i64 m1] 39)
          have hkq : 0 + 1 ≤ 1099511627776 := by omega
          have HG := Lib.hid (show GenL ([] ++ [(v1, v2, m1)]) from fun y hy => by
            rcases List.mem_append.1 hy with hy | hy
            · exact hq.out y hy
            · rw [List.mem_singleton] at hy; subst hy; exact ⟨hxp, by simp only; omega⟩)
          go_wp2_with (at_builtin; refine wpList_appL _ rfl _ _ rfl w.heap.size _ _ _ _ rfl hO9 _ 1 1 [(v1, v2, m1)] rfl hLn hkq hba ?_; intro A6 c6 w9 hO10 hG10 hB10 hor10)
          go_roundw
          case rel => exact ⟨0 + 1, c6, A6, _, by omega, by go_num, rfl, hO10, hE9.up hB10, HG.out⟩
          case measure => simp [intOf] <;> omega
        · obtain ⟨kk, hkk⟩ : ∃ kk, k = kk + 1 := ⟨s.length, by have := hO7.1; simpa using this.symm⟩
          have HKK := Lib.hid hkk
          have hkp : (0 : Int) < (k : Int) := by omega
          have hkn : ¬ (k : Int) ≤ 0 := by omega
          clear hkk
          have hEw7 := hE7
          go_wp2_with fail
          refine (HQ5.out _ hEw7).mono ?_
          rintro e w8 ⟨rfl, hE8⟩
          have hb8 : w8.heap[w4.heap.size]? = _ := (hE8.block (lt_blk hb7)).trans hb7
          have hE8' := hE7.trans hE8
          have hO8 := hO7.e hE8
          clear hEw7 hE7 hO7 hb7 hE8
          by_cases z5 : v5 = 0
          · subst z5
            obtain ⟨hs0, g, rfl, hg1, hg2, hpw, p0, p1, p2, pf⟩ := lots_last (k := kk) (by rw [← HKK.out]; exact hO8)
            have hpg := hq.out p (by simp)
            have hpp := possB_iff.1 hpg.1
            obtain ⟨c80, c81, c82, f80, f81, f82⟩ := cells3g hb8
            have hB8 := lt_blk hb8
            have hk1 : IntKind.i64.wrap ((k : Int) - 1) = (kk : Int) := by have := HKK.out; rw [IntKind.wrap_i64]; omega
            have hkkI : (kk : Int) < (k : Int) := by have := HKK.out; omega
            have hkk0 : (0 : Int) ≤ (kk : Int) := by omega
            have hgne : g ≠ w4.heap.size := HOB.out g rfl
            have hwrp : IntKind.i64.wrap (p.2.1 + p.2.2) = p.2.1 + p.2.2 := by rw [IntKind.wrap_i64]; omega
            obtain ⟨mi, hmi⟩ : ∃ mi, min (p.2.1 + p.2.2) 549755813888 = mi := ⟨_, rfl⟩
            have HM1 := Lib.hid hmi
            have HM2 := Lib.hid (show (if 549755813888 < p.2.1 + p.2.2 then 549755813888 else p.2.1 + p.2.2) = mi by split <;> omega)
            have hmi0 : 0 ≤ mi ∧ mi ≤ 549755813888 := by omega
            clear hmi
            obtain ⟨pf', pa, pn⟩ := p
            simp only at p0 p1 p2 hpg hpp hwrp HM1 HM2
            go_upto_region 11 with fail
            have hb9 : (w8.setCell ⟨w4.heap.size, 0, none⟩ (.int .i64 pf')).heap[w4.heap.size]? = some (.cells #[.int .i64 pf', .int .i64 v2, .int .i64 m1] 39 (0, 0)) := heap_setCell_same _ _ 0 _ _ _ hb8
            have hX9 : Ex (fun i => i = w4.heap.size) w8 (w8.setCell ⟨w4.heap.size, 0, none⟩ (.int .i64 pf')) := (Ex.refl (fun i => i = w4.heap.size) w8).setCell ⟨w4.heap.size, 0, none⟩ (.inr rfl) _
            have hE9 : E w (w8.setCell ⟨w4.heap.size, 0, none⟩ (.int .i64 pf')) := hE8'.setCell (p := ⟨w4.heap.size, 0, none⟩) hB4 _
            have hO9 := hO8.ex hX9 (fun b hb e => HOB.out b hb e)
            obtain ⟨w9, hw9⟩ : ∃ w9, w8.setCell ⟨w4.heap.size, 0, none⟩ (.int .i64 pf') = w9 := ⟨_, rfl⟩
            rw [hw9] at hb9 hE9 hO9 ⊢
            clear hw9 hX9 p0 p1 p2 pf c80 c81 c82 f80 f81 f82 hb8 hE8' hO8 hB8 hg2
            obtain ⟨_, g', e', hg1', hg2, _, p0, p1, p2, pf⟩ := lots_last (k := kk) (by rw [← HKK.out]; exact hO9)
            injection e' with e'; injection e' with e'; subst e'
            obtain ⟨c80, c81, c82, f80, f81, f82⟩ := cells3g hb9
            have hB8 := lt_blk hb9
            go_still_tail 15, (by kernel_rfl)
            go_upto_region 12 with fail
            first | rw [HM1.out] | rw [HM2.out]
            have hb7 : ((w9.setCell ⟨w4.heap.size, 1, none⟩ (.int .i64 mi)).drew).heap[w4.heap.size]? = some (.cells #[.int .i64 pf', .int .i64 mi, .int .i64 m1] 39 (0, 0)) := heap_setCell_same _ _ 1 _ _ _ hb9
            have hX10 : Ex (fun i => i = w4.heap.size) w9 ((w9.setCell ⟨w4.heap.size, 1, none⟩ (.int .i64 mi)).drew) := ((Ex.refl (fun i => i = w4.heap.size) w9).setCell ⟨w4.heap.size, 1, none⟩ (.inr rfl) _).drew
            have hE7 : E w ((w9.setCell ⟨w4.heap.size, 1, none⟩ (.int .i64 mi)).drew) := (hE9.setCell (p := ⟨w4.heap.size, 1, none⟩) hB4 _).drew
            have hO7 := hO9.ex hX10 (fun b hb e => HOB.out b hb e)
            obtain ⟨w10, hw10⟩ : ∃ w10, (w9.setCell ⟨w4.heap.size, 1, none⟩ (.int .i64 mi)).drew = w10 := ⟨_, rfl⟩
            rw [hw10] at hb7 hE7 hO7 ⊢
            clear hw10 hX10 p0 p1 p2 pf c80 c81 c82 f80 f81 f82 hb9 hE9 hO9 hB8 HM1 HM2
            obtain ⟨a7, b7, d7, _⟩ := cells3f hb7
            have hB7 := lt_blk hb7
            have hpg2 := hpg.2
            have hxp : possB (pf', mi, m1) = true := possB_iff.2 (by simp only; omega)
            have hxw : WfL (pf', mi, m1) := wfL_of hxp (by simp only; omega)
            have hLn := lot_new (w := w10) hxw
            have hOz := hO7.e ((E.refl w10).alloc (.cells #[.int .i64 pf', .int .i64 mi, .int .i64 m1] 39))
            have hba : w.heap.size ≤ (w10.alloc (.cells #[.int .i64 pf', .int .i64 mi, .int .i64 m1] 39)).heap.size := by rw [World.size_alloc]; have := hE7.le; omega
            have hEz := hE7.alloc (.cells #[.int .i64 pf', .int .i64 mi, .int .i64 m1] 39)
            have hkq : k + 1 ≤ 1099511627776 := by omega
            have HG := Lib.hid (show GenL ((s ++ [(pf', pa, pn)]) ++ [(pf', mi, m1)]) from fun y hy => by
              rcases List.mem_append.1 hy with hy | hy
              · exact hq.out y hy
              · rw [List.mem_singleton] at hy; subst hy; exact ⟨hxp, by simp only; omega⟩)
            clear hpp hpg hpg2
            go_wp2_with (at_builtin; refine wpList_appL _ rfl _ _ rfl w.heap.size _ _ _ _ rfl hOz _ 1 1 [(pf', mi, m1)] rfl hLn hkq hba ?_; intro A6 c6 wz hO10 hG10 hB10 hor10)
            go_roundw
            case rel => exact ⟨k + 1, c6, A6, _, by omega, by go_num, rfl, hO10, hEz.up hB10, HG.out⟩
            case measure => simp [intOf] <;> omega
          · have s5 : (v5 == 0) = false := by simpa using z5
            have hE7 := hE8'
            have hO7 := hO8
            have hb7 := hb8
            go_upto_region 12 with fail
            obtain ⟨a7, b7, d7, _⟩ := cells3f hb7
            have hB7 := lt_blk hb7
            have hxp : possB (v1, v2, m1) = true := possB_iff.2 (by simp only; omega)
            have hxw : WfL (v1, v2, m1) := wfL_of hxp (by simp only; omega)
            have hLn := lot_new (w := w8) hxw
            have hO9 := hO7.e ((E.refl w8).alloc (.cells #[.int .i64 v1, .int .i64 v2, .int .i64 m1] 39))
            have hba : w.heap.size ≤ (w8.alloc (.cells #[.int .i64 v1, .int .i64 v2, .int .i64 m1] 39)).heap.size := by rw [World.size_alloc]; have := hE7.le; omega
            have hE9 := hE7.alloc (.cells #[.int .i64 v1, .int .i64 v2, .int .i64 m1] 39)
            have hkq : k + 1 ≤ 1099511627776 := by omega
            have HG := Lib.hid (show GenL ((s ++ [p]) ++ [(v1, v2, m1)]) from fun y hy => by
              rcases List.mem_append.1 hy with hy | hy
              · exact hq.out y hy
              · rw [List.mem_singleton] at hy; subst hy; exact ⟨hxp, by simp only; omega⟩)
            go_wp2_with (at_builtin; refine wpList_appL _ rfl _ _ rfl w.heap.size _ _ _ _ rfl hO9 _ 1 1 [(v1, v2, m1)] rfl hLn hkq hba ?_; intro A6 c6 w9 hO10 hG10 hB10 hor10)
            go_roundw
            case rel => exact ⟨k + 1, c6, A6, _, by omega, by go_num, rfl, hO10, hE9.up hB10, HG.out⟩
            case measure => simp [intOf] <;> omega
    · go_wp2_with fail
      go_ret
      exact ⟨q, by have := hO1.1; omega, hq.out, RetL.mk_ rfl hO1 hEw1⟩
end Go.Proofs.Ytgbamgijpgjmgaa
/- The examples of the section. -/
namespace Go.Proofs.Ytgbamgijpgjmgaa
open Go.RowKit Go.Shelf

theorem lx1 : takeS [(7, 0, 6), (9, 2, 2)] 4 false = ([(7, 0, 4)], [(7, 4, 2), (9, 2, 2)], 0) := by decide
theorem lx2 : (takeS [(7, 0, 6), (9, 2, 2)] 4 true).1 = [(7, 0, 3), (9, 2, 1)] ∧ (takeS [(7, 0, 6), (9, 2, 2)] 4 true).2.2 = 0 := by decide
theorem lx3 : sliceS [(7, 0, 6), (9, 2, 2)] 5 2 = ([(7, 5, 1), (9, 2, 1)], 0) := by decide
theorem lx4 : totalS [(7, 0, 6), (9, 2, 2)] = 8 := by decide
theorem lx5 : lminus [(7, 0, 6), (9, 2, 2)] [(7, 1, 2)] = [(7, 0, 1), (7, 3, 3), (9, 2, 2)] := by decide
theorem lots_made (w : World) (l : List Lt) (hw : ∀ x ∈ l, WfL x) (h0 : 0 < l.length) (hm : l.length ≤ 1000) : LotsAt (w.alloc (.cells (flatL l).toArray 39)) (some ⟨w.heap.size, 0, none⟩) l.length l.length l :=
  ⟨rfl, Nat.le_refl _, by unfold maxLen; omega, hw, fun _ => ⟨w.heap.size, 0, rfl, by simp, fun i x hi => by
    obtain ⟨h1, h2, h3⟩ := flatL_at l i x hi
    have hb := heap_alloc_new w (.cells (flatL l).toArray 39)
    have e : ∀ j u, (flatL l)[j]? = some u → (w.alloc (.cells (flatL l).toArray 39)).cell? ⟨w.heap.size, j, none⟩ = some u := fun j u hu => by
      rw [cell_of_row _ _ j _ _ _ hb, List.getElem?_toArray, hu]
    rw [Nat.zero_add]
    exact ⟨e _ _ h1, e _ _ h2, e _ _ h3⟩⟩⟩
theorem wfl_lit {f a n : Int} (h : 0 ≤ f ∧ f ≤ 100 ∧ 0 ≤ a ∧ a ≤ 100 ∧ 0 ≤ n ∧ n ≤ 100) : WfL (f, a, n) := ⟨wf_of_i64 (by simp only; omega) (by simp only; omega), wf_of_i64 (by simp only; omega) (by simp only; omega), wf_of_i64 (by simp only; omega) (by simp only; omega)⟩
theorem same_self (A1 A2 : Option Addr) (n1 c1 n2 c2 : Nat) (l : List Lt) (w : World) (h1 : LotsAt w A1 n1 c1 l) (h2 : LotsAt w A2 n2 c2 l) : Calls Try.prog 18 #[.slice A1 n1 c1, .slice A2 n2 c2] w (RetK w true) := by
  have h := sameL_c A1 A2 n1 c1 n2 c2 l l w h1 h2
  rw [show decide (l = l) = true from decide_eq_true rfl] at h
  exact h
set_option maxHeartbeats 8000000 in
set_option maxRecDepth 100000 in
theorem lives14_c (w : World) : Calls Try.prog 19 #[] w (RetK w true) := by
  have W1 := fun f a n h => wfl_lit (f := f) (a := a) (n := n) h
  have hS : LotsAt (w.alloc (.cells #[.int .i64 7, .int .i64 0, .int .i64 6, .int .i64 9, .int .i64 2, .int .i64 2] 39)) (some ⟨w.heap.size, 0, none⟩) 2 2 [(7, 0, 6), (9, 2, 2)] := lots_made w [(7, 0, 6), (9, 2, 2)] (by intro x hx; simp at hx; rcases hx with rfl | rfl <;> exact W1 _ _ _ (by decide)) (by decide) (by decide)
  have hM := fun W => (show LotsAt (W.alloc (.cells #[.int .i64 7, .int .i64 1, .int .i64 2] 39)) (some ⟨W.heap.size, 0, none⟩) 1 1 [(7, 1, 2)] from lots_made W [(7, 1, 2)] (by intro x hx; simp at hx; subst hx; exact W1 _ _ _ (by decide)) (by decide) (by decide))
  have hA := fun W => (show LotsAt (W.alloc (.cells #[.int .i64 7, .int .i64 0, .int .i64 4] 39)) (some ⟨W.heap.size, 0, none⟩) 1 1 [(7, 0, 4)] from lots_made W [(7, 0, 4)] (by intro x hx; simp at hx; subst hx; exact W1 _ _ _ (by decide)) (by decide) (by decide))
  have hB := fun W => (show LotsAt (W.alloc (.cells #[.int .i64 7, .int .i64 4, .int .i64 2, .int .i64 9, .int .i64 2, .int .i64 2] 39)) (some ⟨W.heap.size, 0, none⟩) 2 2 [(7, 4, 2), (9, 2, 2)] from lots_made W [(7, 4, 2), (9, 2, 2)] (by intro x hx; simp at hx; rcases hx with rfl | rfl <;> exact W1 _ _ _ (by decide)) (by decide) (by decide))
  have hC := fun W => (show LotsAt (W.alloc (.cells #[.int .i64 7, .int .i64 0, .int .i64 3, .int .i64 9, .int .i64 2, .int .i64 1] 39)) (some ⟨W.heap.size, 0, none⟩) 2 2 [(7, 0, 3), (9, 2, 1)] from lots_made W [(7, 0, 3), (9, 2, 1)] (by intro x hx; simp at hx; rcases hx with rfl | rfl <;> exact W1 _ _ _ (by decide)) (by decide) (by decide))
  have hD := fun W => (show LotsAt (W.alloc (.cells #[.int .i64 7, .int .i64 5, .int .i64 1, .int .i64 9, .int .i64 2, .int .i64 1] 39)) (some ⟨W.heap.size, 0, none⟩) 2 2 [(7, 5, 1), (9, 2, 1)] from lots_made W [(7, 5, 1), (9, 2, 1)] (by intro x hx; simp at hx; rcases hx with rfl | rfl <;> exact W1 _ _ _ (by decide)) (by decide) (by decide))
  have hG := fun W => (show LotsAt (W.alloc (.cells #[.int .i64 7, .int .i64 0, .int .i64 1, .int .i64 7, .int .i64 3, .int .i64 3, .int .i64 9, .int .i64 2, .int .i64 2] 39)) (some ⟨W.heap.size, 0, none⟩) 3 3 [(7, 0, 1), (7, 3, 3), (9, 2, 2)] from lots_made W [(7, 0, 1), (7, 3, 3), (9, 2, 2)] (by intro x hx; simp at hx; rcases hx with rfl | rfl | rfl <;> exact W1 _ _ _ (by decide)) (by decide) (by decide))
  have hE1 := (E.refl w).alloc (.cells #[.int .i64 7, .int .i64 0, .int .i64 6, .int .i64 9, .int .i64 2, .int .i64 2] 39)
  have HL := Lib.hid (And.intro hM (And.intro hA (And.intro hB (And.intro hC (And.intro hD hG)))))
  clear hM hA hB hC hD hG W1
  obtain ⟨w1, hw1⟩ : ∃ w1, w.alloc (.cells #[.int .i64 7, .int .i64 0, .int .i64 6, .int .i64 9, .int .i64 2, .int .i64 2] 39) = w1 := ⟨_, rfl⟩
  rw [hw1] at hS hE1
  have HW1 := Lib.hid hw1
  have HT1 := Lib.hid (fun W (hE : E w1 W) => take_c 4 false _ 2 2 _ W (hS.e hE))
  have HT2 := Lib.hid (fun W (hE : E w1 W) => take_c 4 true _ 2 2 _ W (hS.e hE))
  have HT3 := Lib.hid (fun W (hE : E w1 W) => slice_c 5 2 _ 2 2 _ W (hS.e hE) (by omega) (by omega) (by omega) (by omega))
  have HT4 := Lib.hid (fun W (hE : E w1 W) => total_c _ 2 2 _ W (hS.e hE))
  have HT5 := Lib.hid (fun W A' n' c' l' (hE : E w1 W) (h' : LotsAt W A' n' c' l') (hn' : n' ≤ 300) => lMinus_c _ 2 2 _ A' n' c' l' W (hS.e hE) h' (by omega) hn')
  have HE1 := Lib.hid hE1
  rw [lx1] at HT1
  rw [lx3] at HT3
  rw [lx4] at HT4
  obtain ⟨q1, q2⟩ := lx2
  generalize takeS [(7, 0, 6), (9, 2, 2)] 4 true = rr at *
  obtain ⟨r1, r2, r3⟩ := rr
  simp only at q1 q2
  subst q1 q2
  clear hw1 hS hE1
  go_enter Try.func19, Try.ntmps19
  go_upto_region 2 with fail
  rw [HW1.out]
  clear HW1
  go_wp2_with fail
  refine (HT1.out _ (E.refl _)).mono ?_
  rintro e w2 ⟨A2, n2, c2, A3, n3, c3, rfl, hO2, hO3, hE2⟩
  go_wp2_with fail
  refine (HT2.out _ hE2).mono ?_
  rintro e w3 ⟨A4, n4, c4, A5, n5, c5, rfl, hO4, hO5, hE3⟩
  have hE13 := hE2.trans hE3
  go_wp2_with fail
  refine (HT3.out _ hE13).mono ?_
  rintro e w4 ⟨A6, n6, c6, rfl, hO6, hE4⟩
  have hE14 := hE13.trans hE4
  have hX5 : E w4 (w4.alloc (.cells #[.int .i64 7, .int .i64 1, .int .i64 2] 39)) := (E.refl w4).alloc _
  have H5 := Lib.hid (HT5.out _ _ 1 1 _ (hE14.trans hX5) (HL.out.1 w4) (by omega))
  rw [lx5] at H5
  have R2 := Lib.hid (hO2.reads.e (hE3.trans hE4))
  have R3 := Lib.hid (hO3.reads.e (hE3.trans hE4))
  have R4 := Lib.hid (hO4.reads.e hE4)
  have R6 := Lib.hid hO6.reads
  clear hE2 hE3 hE4 hE13 hO2 hO3 hO4 hO5 hO6
  go_wp2_with fail
  refine H5.out.mono ?_
  rintro e w5 ⟨A7, n7, c7, rfl, hO7, hE5⟩
  have hE45 := hX5.trans hE5
  have R7 := Lib.hid hO7.reads
  have hE15 := hE14.trans hE45
  clear hX5 hE5 hO7
  go_wp2_with fail
  refine (HT4.out _ hE15).mono ?_
  rintro e w6 ⟨rfl, hE6⟩
  have R7b := Lib.hid (R7.out.e hE6)
  have hE46 := hE45.trans hE6
  have HE1z := Lib.hid (HE1.out.trans (hE14))
  have hF66 := E.refl w6
  clear hE6 hE15
  have HS7 := Lib.hid (same_self _ _ _ _ 1 1 _ _ ((R2.out.e hE46).e ((E.refl w6).alloc _)) (HL.out.2.1 w6))
  have hX7 := hE46.alloc (.cells #[.int .i64 7, .int .i64 0, .int .i64 4] 39)
  go_wp2_with fail
  refine HS7.out.mono ?_
  rintro e w7 ⟨rfl, hE7⟩
  have hE47 := hX7.trans hE7
  have hF67 := ((hF66).alloc _).trans hE7
  clear HS7 hX7 hE7
  have HS8 := Lib.hid (same_self _ _ _ _ 2 2 _ _ ((R3.out.e hE47).e ((E.refl w7).alloc _)) (HL.out.2.2.1 w7))
  have hX8 := hE47.alloc (.cells #[.int .i64 7, .int .i64 4, .int .i64 2, .int .i64 9, .int .i64 2, .int .i64 2] 39)
  go_wp2_with fail
  refine HS8.out.mono ?_
  rintro e w8 ⟨rfl, hE8⟩
  have hE48 := hX8.trans hE8
  have hF68 := ((hF67).alloc _).trans hE8
  clear HS8 hX8 hE8
  have HS9 := Lib.hid (same_self _ _ _ _ 2 2 _ _ ((R4.out.e hE48).e ((E.refl w8).alloc _)) (HL.out.2.2.2.1 w8))
  have hX9 := hE48.alloc (.cells #[.int .i64 7, .int .i64 0, .int .i64 3, .int .i64 9, .int .i64 2, .int .i64 1] 39)
  go_wp2_with fail
  refine HS9.out.mono ?_
  rintro e w9 ⟨rfl, hE9⟩
  have hE49 := hX9.trans hE9
  have hF69 := ((hF68).alloc _).trans hE9
  clear HS9 hX9 hE9
  have HS10 := Lib.hid (same_self _ _ _ _ 2 2 _ _ ((R6.out.e hE49).e ((E.refl w9).alloc _)) (HL.out.2.2.2.2.1 w9))
  have hX10 := hE49.alloc (.cells #[.int .i64 7, .int .i64 5, .int .i64 1, .int .i64 9, .int .i64 2, .int .i64 1] 39)
  go_wp2_with fail
  refine HS10.out.mono ?_
  rintro e w10 ⟨rfl, hE10⟩
  have hE410 := hX10.trans hE10
  have hF610 := ((hF69).alloc _).trans hE10
  clear HS10 hX10 hE10
  have HS11 := Lib.hid (same_self _ _ _ _ 3 3 _ _ ((R7b.out.e hF610).e ((E.refl w10).alloc _)) (HL.out.2.2.2.2.2 w10))
  have hX11 := hE410.alloc (.cells #[.int .i64 7, .int .i64 0, .int .i64 1, .int .i64 7, .int .i64 3, .int .i64 3, .int .i64 9, .int .i64 2, .int .i64 2] 39)
  go_wp2_with fail
  refine HS11.out.mono ?_
  rintro e w11 ⟨rfl, hE11⟩
  have hE411 := hX11.trans hE11
  clear HS11 hX11 hE11
  go_wp2_with fail
  go_ret
  exact ⟨rfl, HE1z.out.trans hE411⟩
end Go.Proofs.Ytgbamgijpgjmgaa
