/- taken, Few, SameBytes, Same: what BidsEncoding needs beside Encode and Decode. -/
import Derived.Test.YtpbkfpkgbfifaaaKDe
import Derived.Test.YtpbkfpkgbfifaaaKLv
import Derived.Test.YtpbkfpkgbfifaaaKJ
namespace Go.Proofs.Ytpbkfpkgbfifaaa
open Go.RowKit

set_option maxHeartbeats 400000 in
theorem sameBytes_c (A1 A2 : Option Addr) (n1 c1 n2 c2 : Nat) (l1 l2 : List Int) (w : World) (h1 : Nums .u8 w A1 n1 c1 l1) (h2 : Nums .u8 w A2 n2 c2 l2) :
    Calls Try.prog 46 #[.slice A1 n1 c1, .slice A2 n2 c2] w fun e w' => e = .returned (.bool (sameB l1 l2)) ∧ ∃ m, w' = w.drewN m := by
  have m1 := h1.n63
  have m2 := h2.n63
  by_cases hn : n1 = n2
  · subst hn
    go_enter Try.func46, Try.ntmps46
    go_wp2
    go_loopw [5] (fun i wr => ∃ k : Nat, k ≤ n1 ∧ i = .int .i64 k ∧ Q w wr ∧ Hid (sameB (l1.drop k) (l2.drop k) = sameB l1 l2)) (fun i _ => n1 - (intOf i).toNat)
    case atStart => exact ⟨0, Nat.zero_le _, rfl, Q.refl _, rfl⟩
    case round =>
      obtain ⟨k, hk, rfl, hq, hs⟩ := hrel
      by_cases hlt : k < n1
      · obtain ⟨b1, o1, x, rfl, hb1, hx, hwx, hc1⟩ := (h1.q hq).get hlt
        obtain ⟨b2, o2, y, rfl, hb2, hy, hwy, hc2⟩ := (h2.q hq).get hlt
        have HX := Lib.hid (drop_at hx)
        have HY := Lib.hid (drop_at hy)
        clear hx hy hwx hwy
        by_cases he : x = y
        · have hd : (x != y) = false := by simp [he]
          have HE := Lib.hid he
          clear he
          go_wp2
          go_quiet (fail)
          go_wp2
          go_roundw
          case rel => exact ⟨k + 1, by omega, by go_num, hq.drewN _, show _ = _ by rw [← hs.out, HX.out, HY.out, HE.out]; simp [sameB]⟩
          case measure => simp [intOf]; omega
        · have hd : (x != y) = true := by simpa using he
          go_wp2
          go_quiet (fail)
          go_wp2
          go_ret
          exact ⟨ret_bool (by rw [← hs.out, HX.out, HY.out]; simp [sameB, he]), hq.drewN _⟩
      · have HF := Lib.hid (show sameB l1 l2 = true by rw [← hs.out, drop_end h1.len (by omega), drop_end h2.len (by omega)]; rfl)
        go_wp2
        go_ret
        exact ⟨ret_bool HF.out.symm, hq⟩
  · have hb := neI_k hn
    have HF := Lib.hid (show sameB l1 l2 = false by
      have := h1.len; have := h2.len; simp only [sameB, decide_eq_false_iff_not]; rintro rfl; omega)
    go_enter Try.func46, Try.ntmps46
    go_wp2
    go_ret
    exact ⟨ret_bool HF.out.symm, Q.refl _⟩


set_option maxHeartbeats 2000000 in
set_option maxRecDepth 100000 in
theorem taken_c (A : Option Addr) (n c : Nat) (l : List Bd) (w : World) (h : BidsAt w A n c l) (hn : n ≤ 1000000) :
    Calls Try.prog 42 #[.slice A n c] w (RetBids 53 w l) := by
  have hl := h.len
  go_enter Try.func42, Try.ntmps42
  go_wp2_with fail
  go_loopw [3, 4] (fun t3 ti wr => ∃ (k c' : Nat) (A' : Option Addr) (q : List (Bd × Sl)), k ≤ n ∧ ti = .int .i64 k ∧ t3 = .slice A' k c' ∧ BRow 53 wr w.heap.size A' k c' q ∧ E w wr ∧ Hid (q.map Prod.fst = l.take k)) (fun _ ti _ => n - (intOf ti).toNat)
  case atStart => exact ⟨0, 0, none, [], Nat.zero_le _, rfl, rfl, BRow.nil _ _ _, E.refl _, rfl⟩
  case round =>
    obtain ⟨k, c', A', q, hk, rfl, rfl, hR, hE, hq⟩ := hrel
    by_cases hlt : k < n
    · obtain ⟨b, o, x, A1, n1, c1, rfl, hb, hx, hv1, hv2, hN, hcs⟩ := h.item hlt
      obtain ⟨hc1, hc2, hc3⟩ := hcs wr hE
      have HX := Lib.hid (show l.take (k + 1) = l.take k ++ [x] by rw [List.take_add_one, hx]; rfl)
      have hbr : b < wr.heap.size := Nat.lt_of_lt_of_le hb hE.le
      clear hx hcs
      have hRd := hR.e ((E.refl wr).drew)
      have hNd := (hN.e hE).e ((E.refl wr).drew)
      have hle := hE.le
      have hbn := below_ne hN hRd
      have hkI : (k : Int) < (n : Int) := by omega
      go_wp2_with fail
      have hbw : b < w.heap.size := hb
      go_region_held3 (fun w' => w.heap.size ≤ w'.heap.size ∧ ∀ b o, b < w.heap.size → w'.cell? ⟨b, o, none⟩ = wr.cell? ⟨b, o, none⟩)
        (first | exact ⟨hle, fun _ _ _ => rfl⟩ | exact sKeepK (by assumption) ((E.refl _).alloc _) | exact sKeepB' (by assumption) (by assumption))
        ((refine step_appBd bidTr (by rfl) _ _ (by rfl) w.heap.size _ _ _ _ (by rfl) (hR.e (by first | exact ((E.refl _).alloc _).drewN _ | exact ((E.refl _).alloc _).drew)) _ (x, A1, n1, c1) (by rfl) (cells3_new _ _ _ _ _) ⟨hv1, hv2, (hN.e hE).e (by first | exact ((E.refl _).alloc _).drewN _ | exact ((E.refl _).alloc _).drew), hbn⟩ (by omega) (by simp; omega) ?_; intro g' c2 w3 hR3 hB3))
      rename_i hHeld
      clear hHeld
      have hB4 : Below w.heap.size wr w3 := ((Below.refl _ _).alloc hle _).trans ⟨hB3.os, hB3.tape, hB3.output, hB3.size, hB3.block⟩
      go_wp2_with fail
      go_roundw
      case rel => exact ⟨k + 1, c2, some ⟨g', 0, none⟩, q ++ [(x, A1, n1, c1)], by omega, by go_num, rfl, hR3, hE.up hB4, show _ = _ by rw [HX.out, List.map_append, hq.out]; rfl⟩
      case measure => simp [intOf]; omega
    · have HF := Lib.hid (show q.map Prod.fst = l by rw [hq.out, List.take_of_length_le (by omega)])
      go_wp2_with fail
      go_ret
      exact ⟨A', k, c', q, rfl, hR, HF.out, hE⟩


theorem Nums.takeB {w : World} {A : Option Addr} {n c : Nat} {l : List Int} (h : Nums .u8 w A n c l) (k : Nat) (hk : k ≤ n) : Nums .u8 w A k c (l.take k) :=
  ⟨by rw [List.length_take, h.len]; omega, Nat.le_trans hk h.cap, h.mx, fun x hx => h.wf x (List.mem_of_mem_take hx), fun h0 => by
    obtain ⟨b, o, e, hb, hc⟩ := h.at_ (by omega)
    refine ⟨b, o, e, hb, fun i hi => ?_⟩
    rw [List.getElem_take]
    exact hc i _⟩
set_option maxHeartbeats 1000000 in
theorem few_c (A : Option Addr) (n c : Nat) (l : List Int) (w : World) (h : Nums .u8 w A n c l) :
    Calls Try.prog 45 #[.slice A n c, .int .i64 40] w (RetOwn .u8 5 w (l.take 40)) := by
  have hm := h.n63
  have hcap := h.cap
  have hc63 := h.c63
  obtain ⟨k, hk⟩ : ∃ k : Nat, min n 40 = k := ⟨_, rfl⟩
  have hkn : k ≤ n := by omega
  have hk40 : k ≤ 40 := by omega
  have hmin : min (n : Int) 40 = (k : Int) := by omega
  have HT := Lib.hid (show l.take k = l.take 40 by
    rw [← hk, ← h.len]
    rcases Nat.le_total l.length 40 with h1 | h1
    · rw [Nat.min_eq_left h1, List.take_of_length_le (Nat.le_refl _), List.take_of_length_le h1]
    · rw [Nat.min_eq_right h1])
  have hT := h.takeB k hkn
  clear hk
  have hkc : (k : Int) ≤ (c : Int) := by omega
  go_enter Try.func45, Try.ntmps45
  go_wp2_with (at_builtin; refine wpList_appN byteT _ rfl _ _ rfl w.heap.size _ _ _ [] rfl (Own.nil _ _ _ _) _ _ _ (l.take k) rfl hT (by omega) (Nat.le_refl _) ?_; intro A' c' w1 hO hG hB)
  go_ret
  exact RetOwn.mk_ HT.out.symm (by simpa using hO) hB
end Go.Proofs.Ytpbkfpkgbfifaaa
