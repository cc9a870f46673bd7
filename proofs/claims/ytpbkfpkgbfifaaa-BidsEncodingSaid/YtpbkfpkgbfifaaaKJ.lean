/- Small functions of the model: Around, Pick, SameInts, Has, Lots. -/
import Derived.Test.YtpbkfpkgbfifaaaKB
import Derived.Test.YtpbkfpkgbfifaaaP
namespace Go.Proofs.Ytpbkfpkgbfifaaa
open Go.RowKit

theorem neI_k {a b : Nat} (h : ¬ a = b) : ((a : Int) != (b : Int)) = true := by simp; omega
def aroN (a m : Int) : Int := (if a < 0 then -(a + 1) else a) % m
theorem aroN_range (a : Int) {m : Int} (hm : 0 < m) : 0 ≤ aroN a m ∧ aroN a m < m := ⟨Int.emod_nonneg _ (by omega), Int.emod_lt_of_pos _ hm⟩
set_option maxHeartbeats 400000 in
theorem around1_c (a m : Int) (w : World) (h1 : -9223372036854775808 ≤ a) (h2 : a ≤ 9223372036854775807) (hm : 0 < m) (hm2 : m ≤ 9223372036854775807) :
    Calls Try.prog 15 #[.int .i64 a, .int .i64 m] w fun e w' => e = .returned (.int .i64 (aroN a m)) ∧ w = w' := by
  have hz : (m == 0) = false := by simp; omega
  have hz1 : (m == -1) = false := by simp; omega
  by_cases h : a < 0
  · have HF := Lib.hid (show (-(a + 1)).tmod m = aroN a m by rw [aroN, if_pos h, Int.tmod_eq_emod_of_nonneg (by omega)])
    go_enter Try.func15, Try.ntmps15
    go_wp2
    go_ret
    exact ⟨ret_int (by rw [← HF.out, Int.neg_tmod]), rfl⟩
  · have HF := Lib.hid (show a % m = aroN a m by rw [aroN, if_neg h])
    go_enter Try.func15, Try.ntmps15
    go_wp2
    go_ret
    exact ⟨ret_int HF.out, rfl⟩

def pickV (l : List Int) (i : Nat) (m : Int) : Int := match l[i]? with | some x => aroN x m | none => 0
theorem pickV_range (l : List Int) (i : Nat) {m : Int} (hm : 0 < m) : 0 ≤ pickV l i m ∧ pickV l i m < m := by
  unfold pickV
  split
  · exact aroN_range _ hm
  · exact ⟨Int.le_refl _, hm⟩
set_option maxHeartbeats 400000 in
theorem pick1_c (A : Option Addr) (n c : Nat) (l : List Int) (i : Nat) (m : Int) (w : World) (h : Nums .i64 w A n c l) (hi : i ≤ 1000000) (hm : 0 < m) (hm2 : m ≤ 9223372036854775807) :
    Calls Try.prog 51 #[.slice A n c, .int .i64 i, .int .i64 m] w fun e w' => e = .returned (.int .i64 (pickV l i m)) ∧ E w w' := by
  have hnn := h.n63
  by_cases hlt : (i : Int) < (n : Int)
  · obtain ⟨b, o, x, rfl, hb, hx, hwx, hcx⟩ := h.get (i := i) (by omega)
    have HF := Lib.hid (show pickV l i m = aroN x m by rw [pickV, hx])
    have HA := Lib.hid (fun w => around1_c x m w (wf_i64 hwx).1 (wf_i64 hwx).2 hm hm2)
    go_enter Try.func51, Try.ntmps51
    go_wp2_with fail
    try go_region
    all_goals go_wp2_with fail
    all_goals refine (HA.out _).mono ?_
    all_goals rintro e w' ⟨rfl, rfl⟩
    all_goals go_wp2_with fail
    all_goals go_ret
    all_goals exact ⟨ret_int HF.out.symm, by first | exact E.refl _ | exact (E.refl _).drew⟩
  · have HF := Lib.hid (show pickV l i m = 0 by rw [pickV, List.getElem?_eq_none (by rw [h.len]; omega)])
    go_enter Try.func51, Try.ntmps51
    go_wp2_with fail
    try go_region
    all_goals go_wp2_with fail
    all_goals go_ret
    all_goals exact ⟨ret_int HF.out.symm, by first | exact E.refl _ | exact (E.refl _).drew⟩
set_option maxHeartbeats 400000 in
theorem sameInts_c (A1 A2 : Option Addr) (n1 c1 n2 c2 : Nat) (l1 l2 : List Int) (w : World) (h1 : Nums .i64 w A1 n1 c1 l1) (h2 : Nums .i64 w A2 n2 c2 l2) :
    Calls Try.prog 20 #[.slice A1 n1 c1, .slice A2 n2 c2] w fun e w' => e = .returned (.bool (sameB l1 l2)) ∧ ∃ m, w' = w.drewN m := by
  have m1 := h1.n63
  have m2 := h2.n63
  by_cases hn : n1 = n2
  · subst hn
    go_enter Try.func20, Try.ntmps20
    go_wp2
    go_loopw [5] (fun i wr => ∃ k : Nat, k ≤ n1 ∧ i = .int .i64 k ∧ Q w wr ∧ Hid (sameB (l1.drop k) (l2.drop k) = sameB l1 l2)) (fun i _ => n1 - (intOf i).toNat)
    case atStart => exact ⟨0, Nat.zero_le _, rfl, Q.refl _, rfl⟩
    case round =>
      obtain ⟨k, hk, rfl, hq, hs⟩ := hrel
      by_cases hlt : k < n1
      · obtain ⟨b1, o1, x, rfl, hb1, hx, hwx, hc1⟩ := (h1.q hq).get hlt
        obtain ⟨b2, o2, y, rfl, hb2, hy, hwy, hc2⟩ := (h2.q hq).get hlt
        have HX := Lib.hid (drop_at hx)
        have HY := Lib.hid (drop_at hy)
        clear hx hy hwx hwy
        by_cases he : x = y
        · have hd : (x != y) = false := by simp [he]
          have HE := Lib.hid he
          clear he
          go_wp2
          go_quiet (fail)
          go_wp2
          go_roundw
          case rel => exact ⟨k + 1, by omega, by go_num, hq.drewN _, show _ = _ by rw [← hs.out, HX.out, HY.out, HE.out]; simp [sameB]⟩
          case measure => simp [intOf]; omega
        · have hd : (x != y) = true := by simpa using he
          go_wp2
          go_quiet (fail)
          go_wp2
          go_ret
          exact ⟨ret_bool (by rw [← hs.out, HX.out, HY.out]; simp [sameB, he]), hq.drewN _⟩
      · have HF := Lib.hid (show sameB l1 l2 = true by rw [← hs.out, drop_end h1.len (by omega), drop_end h2.len (by omega)]; rfl)
        go_wp2
        go_ret
        exact ⟨ret_bool HF.out.symm, hq⟩
  · have hb := neI_k hn
    have HF := Lib.hid (show sameB l1 l2 = false by
      have := h1.len; have := h2.len; simp only [sameB, decide_eq_false_iff_not]; rintro rfl; omega)
    go_enter Try.func20, Try.ntmps20
    go_wp2
    go_ret
    exact ⟨ret_bool HF.out.symm, Q.refl _⟩

theorem sameInts_e (A1 A2 : Option Addr) (n1 c1 n2 c2 : Nat) (l1 l2 : List Int) (w : World) (h1 : Nums .i64 w A1 n1 c1 l1) (h2 : Nums .i64 w A2 n2 c2 l2) :
    Calls Try.prog 20 #[.slice A1 n1 c1, .slice A2 n2 c2] w (RetK w (sameB l1 l2)) :=
  (sameInts_c A1 A2 n1 c1 n2 c2 l1 l2 w h1 h2).mono fun _ _ h => ⟨h.1, E.of_q h.2⟩

theorem lots27_c (a : Int) (w : World) (h1 : -9223372036854775808 ≤ a) (h2 : a ≤ 9223372036854775807) :
    Calls Try.prog 12 #[.int .i64 a] w fun e w' => e = .returned (.int .i64 (1 + aroN a 8)) ∧ w = w' := by
  have hr := aroN_range a (m := 8) (by omega)
  have HA := Lib.hid (around1_c a 8 w h1 h2 (by omega) (by omega))
  generalize aroN a 8 = r at *
  go_enter Try.func12, Try.ntmps12
  go_wp2_with fail
  refine HA.out.mono ?_
  rintro e w' ⟨rfl, rfl⟩
  go_wp2_with fail
  go_ret
  exact ⟨rfl, rfl⟩

set_option maxHeartbeats 400000 in
theorem has1_c (A : Option Addr) (n c : Nat) (l : List Int) (x : Int) (w : World) (h : Nums .i64 w A n c l) :
    Calls Try.prog 29 #[.slice A n c, .int .i64 x] w (RetK w (l.contains x)) := by
  have hm := h.n63
  go_enter Try.func29, Try.ntmps29
  go_wp2_with fail
  go_loopw [5] (fun i wr => ∃ k : Nat, k ≤ n ∧ i = .int .i64 k ∧ E w wr ∧ Hid (∀ y ∈ l.take k, y ≠ x)) (fun i _ => n - (intOf i).toNat)
  case atStart => exact ⟨0, Nat.zero_le _, rfl, E.refl _, by intro y hy; simp at hy⟩
  case round =>
    obtain ⟨k, hk, rfl, hE, hno⟩ := hrel
    by_cases hlt : k < n
    · obtain ⟨b, o, y, rfl, hb, hy, hwy, hcy⟩ := (h.e hE).get hlt
      have HX := Lib.hid hy
      clear hy
      by_cases he : y = x
      · have hd : (y == x) = true := by simp [he]
        have HR := Lib.hid (show l.contains x = true by rw [List.contains_iff_mem, ← he]; exact List.mem_of_getElem? HX.out)
        go_wp2_with fail
        try go_region
        all_goals go_wp2_with fail
        all_goals go_ret
        all_goals exact ⟨ret_bool HR.out.symm, by first | exact hE | exact hE.drew⟩
      · have hd : (y == x) = false := by simp [he]
        have HE := Lib.hid he
        clear he
        go_wp2_with fail
        try go_region
        all_goals go_wp2_with fail
        all_goals go_roundw
        all_goals first
          | exact ⟨k + 1, by omega, by go_num, by first | exact hE | exact hE.drew, by
              intro z hz
              rw [List.take_add_one, HX.out] at hz
              rcases List.mem_append.1 hz with h | h
              · exact hno.out z h
              · simp at h; rw [h]; exact HE.out⟩
          | (simp [intOf]; omega)
    · have HR := Lib.hid (show l.contains x = false by
        rw [List.take_of_length_le (by rw [h.len]; omega)] at hno
        rw [Bool.eq_false_iff]
        intro hc
        rw [List.contains_iff_mem] at hc
        exact hno.out x hc rfl)
      go_wp2_with fail
      go_ret
      exact ⟨ret_bool HR.out.symm, hE⟩
end Go.Proofs.Ytpbkfpkgbfifaaa
