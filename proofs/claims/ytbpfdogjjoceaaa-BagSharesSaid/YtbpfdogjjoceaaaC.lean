/- Contracts of functions that make a list of numbers: Bag, Times of the reference. -/
import Derived.Test.YtbpfdogjjoceaaaB
import Derived.Test.YtbpfdogjjoceaaaL
namespace Go.Proofs.Ytbpfdogjjoceaaa
open Go.RowKit

theorem intT : IntT Try.prog 22 3 .i64 8 := ⟨Try.underlying22, by kernel_rfl, by decide⟩

set_option maxHeartbeats 1000000 in
theorem bag_c (n p : Nat) (A : Option Addr) (m c : Nat) (l : List Int) (w : World) (h : Nums .i64 w A m c l) (hn : n ≤ 64) (hp : p ≤ 64) :
    Calls Try.prog 20 #[.int .i64 n, .slice A m c, .int .i64 p] w (RetOwn .i64 3 w (bagL n l p)) := by
  have hm := h.n63
  have hnI : (n : Int) ≤ 64 := by omega
  have hpI : (p : Int) ≤ 64 := by omega
  go_enter Try.func20, Try.ntmps20
  go_wp2
  go_loopw [7, 8] (fun t i wr => ∃ (k c' : Nat) (A' : Option Addr), k ≤ n ∧ i = .int .i64 k ∧ t = .slice A' k c' ∧ Own .i64 3 wr w.heap.size A' k c' (bagL k l p) ∧ E w wr) (fun _ i _ => n - (intOf i).toNat)
  case atStart => exact ⟨0, 0, none, Nat.zero_le _, rfl, rfl, Own.nil _ _ _ _, E.refl _⟩
  case round =>
    obtain ⟨k, c', A', hk, rfl, rfl, hown, hE⟩ := hrel
    have hkI : (k : Int) ≤ 64 := by omega
    have hle := hE.le
    have hsu := Lib.hid (bagL_succ k l p)
    by_cases hlt : k < n
    · by_cases hlm : p + k < m
      · obtain ⟨b, o, x, rfl, hb, hx, hwx, hc⟩ := (h.e hE).get hlm
        have hbE := bagE_ok l (p + k)
        have HX := Lib.hid (show bagE l (p + k) = (let k := x % 1099511627777; if 0 < k % 5 then k / 5 % 12 else k) by simp [bagE, List.getD, hx])
        have hwx' := wf_i64 hwx
        obtain ⟨x0, x1⟩ := hwx'
        clear hx hwx
        have hlmI : (p : Int) + k < m := by omega
        have z0 : 0 ≤ x % 1099511627777 := by omega
        have z1 : x % 1099511627777 ≤ 1099511627776 := by omega
        generalize hz : x % 1099511627777 = z at HX z0 z1
        have HZ := Lib.hid hz
        clear hz
        by_cases hz5 : 0 < z % 5
        · go_wp2_with (first
            | (go_at_call 13; refine (around_c _ _ _ (by omega) (by omega) (by omega) (by omega)).mono ?_; rintro e w' ⟨rfl, rfl⟩; rw [HZ.out])
            | (at_builtin; refine wpList_app1n intT _ rfl _ _ rfl _ _ _ _ _ rfl hown _ rfl (wf_of_i64 (by omega) (by omega)) (by omega) hle ?_; intro g' c2 w1 hO hG hB hor))
          go_roundw
          case rel => exact ⟨k + 1, c2, _, by omega, by go_num, rfl, hO.cast (by rw [hsu.out, HX.out]; simp [hz5]), hE.up hB⟩
          case measure => simp [intOf]; omega
        · go_wp2_with (first
            | (go_at_call 13; refine (around_c _ _ _ (by omega) (by omega) (by omega) (by omega)).mono ?_; rintro e w' ⟨rfl, rfl⟩; rw [HZ.out])
            | (at_builtin; refine wpList_app1n intT _ rfl _ _ rfl _ _ _ _ _ rfl hown _ rfl (wf_of_i64 (by omega) (by omega)) (by omega) hle ?_; intro g' c2 w1 hO hG hB hor))
          go_roundw
          case rel => exact ⟨k + 1, c2, _, by omega, by go_num, rfl, hO.cast (by rw [hsu.out, HX.out, if_neg (by omega)]), hE.up hB⟩
          case measure => simp [intOf]; omega
      · have HX := Lib.hid (show bagE l (p + k) = 0 by
          have : l[p + k]? = none := List.getElem?_eq_none (by rw [h.len]; omega)
          simp [bagE, List.getD, this])
        have hlmI : ¬ (p : Int) + k < m := by omega
        go_wp2_with (at_builtin; refine wpList_app1n intT _ rfl _ _ rfl _ _ _ _ _ rfl hown _ rfl (wf_of_i64 (by omega) (by omega)) (by omega) hle ?_; intro g' c2 w1 hO hG hB hor)
        go_roundw
        case rel => exact ⟨k + 1, c2, _, by omega, by go_num, rfl, hO.cast (by rw [hsu.out, HX.out]), hE.up hB⟩
        case measure => simp [intOf]; omega
    · go_wp2
      go_ret
      exact ⟨_, _, _, rfl, hown.cast (by congr 1; omega), hE⟩

theorem mul60 {x k : Int} (h0 : 0 ≤ x) (h1 : x ≤ 1099511627776) (h2 : 0 ≤ k) (h3 : k ≤ 1048576) : 0 ≤ x * k ∧ x * k ≤ 1152921504606846976 := by
  rw [Int.mul_comm]; exact mul_le_60 h2 h3 h0 h1
theorem timesS_no {l : List Int} {k : Int} (h : ¬ (isBagB l = true ∧ 0 ≤ k ∧ k ≤ 1048576)) : timesS l k = ([], 1) := by rw [timesS, if_neg h]
theorem timesS_yes {l : List Int} {k : Int} (h : isBagB l = true ∧ 0 ≤ k ∧ k ≤ 1048576) : timesS l k = pre [] (combF (fun _ y => tm1 k y) l l) := by rw [timesS, if_pos h, pre_nil]

set_option maxHeartbeats 1000000 in
theorem refTimes_c (A : Option Addr) (n c : Nat) (l : List Int) (q : Int) (w : World) (h : Nums .i64 w A n c l) :
    Calls Try.prog 15 #[.slice A n c, .int .i64 q] w (RetOwnErr .i64 3 w (timesS l q)) := by
  have hm := h.n63
  by_cases hyes : isBagB l = true ∧ 0 ≤ q ∧ q ≤ 1048576
  · have HT := Lib.hid (timesS_yes hyes)
    obtain ⟨hbag, hq0, hq1⟩ := hyes
    have HB := Lib.hid hbag
    have hn64 : n ≤ 64 := by have := isBag_len hbag; rw [h.len] at this; exact this
    go_enter Try.func15, Try.ntmps15
    go_wp2_with (go_at_call 31; refine (refIs_c _ _ _ _ _ h).mono ?_; rintro e w' ⟨rfl, rfl⟩)
    go_loopw [7, 8] (fun t i wr => ∃ (k c' : Nat) (A' : Option Addr) (out : List Int), k ≤ n ∧ i = .int .i64 k ∧ t = .slice A' k c' ∧ Own .i64 3 wr w.heap.size A' k c' out ∧ E w wr ∧ Hid (pre out (combF (fun _ y => tm1 q y) (l.drop k) (l.drop k)) = timesS l q)) (fun _ i _ => n - (intOf i).toNat)
    case atStart => exact ⟨0, 0, none, [], Nat.zero_le _, rfl, rfl, Own.nil _ _ _ _, E.refl _, HT.out.symm⟩
    case round =>
      obtain ⟨k, c', A', out, hk, rfl, rfl, hown, hE, hs⟩ := hrel
      have hle := hE.le
      by_cases hlt : k < n
      · obtain ⟨b, o, x, rfl, hb, hx, hwx, hc⟩ := (h.e hE).get hlt
        obtain ⟨x0, x1⟩ := isBag_get HB.out hx
        obtain ⟨z0, z1⟩ := mul60 x0 x1 hq0 hq1
        have HX := Lib.hid hx
        clear hx hwx
        by_cases hz : 1099511627776 < x * q
        · have hf : tm1 q x = (0, 4) := by simp [tm1, hz]
          have HF := Lib.hid hf
          clear hf
          go_wp2
          go_ret2
          exact RetOwnErr.mk_ (by rw [← hs.out, comb_err HX.out HX.out (by rw [HF.out]; decide), HF.out]) (Own.nil _ _ _ _) hE
        · have hf : tm1 q x = (x * q, 0) := by simp [tm1, hz]
          have HF := Lib.hid hf
          clear hf
          go_wp2_with (at_builtin; refine wpList_app1n intT _ rfl _ _ rfl _ _ _ _ _ rfl hown _ rfl (wf_of_i64 (by omega) (by omega)) (by omega) hle ?_; intro g' c2 w1 hO hG hB hor)
          go_roundw
          case rel => exact ⟨k + 1, c2, _, _, by omega, by go_num, rfl, hO, hE.up hB, show _ = _ by rw [← hs.out, comb_ok HX.out HX.out (by rw [HF.out]), HF.out]⟩
          case measure => simp [intOf]; omega
      · have HF := Lib.hid (show timesS l q = (out, 0) by rw [← hs.out, drop_end h.len (by omega), comb_end])
        go_wp2
        go_ret2
        exact RetOwnErr.mk_ HF.out hown hE
  · have HT := Lib.hid (timesS_no hyes)
    have hend : RetOwnErr .i64 3 w (timesS l q) (.returned (.tuple #[.slice none 0 0, .int .i64 1])) w := ⟨none, 0, 0, by rw [HT.out], by rw [HT.out]; exact Own.nil _ _ _ _, E.refl _⟩
    have HE := Lib.hid hend
    clear hend HT
    cases hbag : isBagB l
    · go_enter Try.func15, Try.ntmps15
      go_wp2_with (go_at_call 31; refine (refIs_c _ _ _ _ _ h).mono ?_; rintro e w' ⟨rfl, rfl⟩)
      go_ret2
      exact HE.out
    · by_cases hq0 : q < 0
      · go_enter Try.func15, Try.ntmps15
        go_wp2_with (go_at_call 31; refine (refIs_c _ _ _ _ _ h).mono ?_; rintro e w' ⟨rfl, rfl⟩)
        go_ret2
        exact HE.out
      · have hq1 : 1048576 < q := by
          have h0 : ¬ (0 ≤ q ∧ q ≤ 1048576) := fun hh => hyes ⟨hbag, hh⟩
          omega
        go_enter Try.func15, Try.ntmps15
        go_wp2_with (go_at_call 31; refine (refIs_c _ _ _ _ _ h).mono ?_; rintro e w' ⟨rfl, rfl⟩)
        go_ret2
        exact HE.out

/-! the closures and limited -/
def lim1 (x : Int) : Int × Int := if 1099511627776 < x then (0, 4) else (x, 0)
set_option maxHeartbeats 400000 in
theorem limited_c (x : Int) (w : World) :
    Calls Try.prog 52 #[.int .i64 x] w fun e w' => e = .returned (.tuple #[.int .i64 (lim1 x).1, .int .i64 (lim1 x).2]) ∧ w = w' := by
  by_cases h : 1099511627776 < x
  · have HF := Lib.hid (show lim1 x = (0, 4) by simp [lim1, h])
    rw [HF.out]
    go_enter Try.func52, Try.ntmps52
    go_wp2
    go_ret2
    exact ⟨rfl, rfl⟩
  · have HF := Lib.hid (show lim1 x = (x, 0) by simp [lim1, h])
    rw [HF.out]
    go_enter Try.func52, Try.ntmps52
    go_wp2
    go_ret2
    exact ⟨rfl, rfl⟩

set_option maxHeartbeats 400000 in
theorem add1_c (x y : Int) (w : World) (hx0 : 0 ≤ x) (hx : x ≤ 1099511627776) (hy0 : 0 ≤ y) (hy : y ≤ 1099511627776) :
    Calls Try.prog 55 #[.int .i64 x, .int .i64 y] w fun e w' => e = .returned (.tuple #[.int .i64 (lim1 (x + y)).1, .int .i64 (lim1 (x + y)).2]) ∧ w = w' := by
  go_enter Try.func55, Try.ntmps55
  go_wp2_with (go_at_call 52; refine (limited_c _ _).mono ?_; rintro e w' ⟨rfl, rfl⟩)
  go_ret2
  exact ⟨rfl, rfl⟩

def sub1 (x y : Int) : Int × Int := if x < y then (0, 10) else (x - y, 0)
set_option maxHeartbeats 400000 in
theorem sub1_c (x y : Int) (w : World) (hx0 : 0 ≤ x) (hx : x ≤ 1099511627776) (hy0 : 0 ≤ y) (hy : y ≤ 1099511627776) :
    Calls Try.prog 60 #[.int .i64 x, .int .i64 y] w fun e w' => e = .returned (.tuple #[.int .i64 (sub1 x y).1, .int .i64 (sub1 x y).2]) ∧ w = w' := by
  by_cases h : x < y
  · have HF := Lib.hid (show sub1 x y = (0, 10) by simp [sub1, h])
    rw [HF.out]
    go_enter Try.func60, Try.ntmps60
    go_wp2
    go_ret2
    exact ⟨rfl, rfl⟩
  · have HF := Lib.hid (show sub1 x y = (x - y, 0) by simp [sub1, h])
    rw [HF.out]
    go_enter Try.func60, Try.ntmps60
    go_wp2
    go_ret2
    exact ⟨rfl, rfl⟩

set_option maxHeartbeats 400000 in
theorem join1_c (x y : Int) (w : World) :
    Calls Try.prog 58 #[.int .i64 x, .int .i64 y] w fun e w' => e = .returned (.tuple #[.int .i64 (max x y), .int .i64 0]) ∧ w = w' := by
  go_enter Try.func58, Try.ntmps58
  go_wp2
  all_goals
    go_ret2
    exact ⟨ret_two (by omega) rfl, rfl⟩
set_option maxHeartbeats 400000 in
theorem meet1_c (x y : Int) (w : World) :
    Calls Try.prog 59 #[.int .i64 x, .int .i64 y] w fun e w' => e = .returned (.tuple #[.int .i64 (min x y), .int .i64 0]) ∧ w = w' := by
  go_enter Try.func59, Try.ntmps59
  go_wp2
  all_goals
    go_ret2
    exact ⟨ret_two (by omega) rfl, rfl⟩

set_option maxHeartbeats 400000 in
theorem times1_c (x y q : Int) (b : Nat) (w : World) (hc : w.cell? ⟨b, 0, none⟩ = some (.int .i64 q)) (hy0 : 0 ≤ y) (hy : y ≤ 1099511627776) (hq0 : 0 ≤ q) (hq : q ≤ 1048576) :
    Calls Try.prog 51 #[.int .i64 x, .int .i64 y, .pointer (some ⟨b, 0, none⟩)] w fun e w' => e = .returned (.tuple #[.int .i64 (tm1 q y).1, .int .i64 (tm1 q y).2]) ∧ w = w' := by
  obtain ⟨z0, z1⟩ := mul60 hy0 hy hq0 hq
  go_enter Try.func51, Try.ntmps51
  go_wp2_with (go_at_call 52; refine (limited_c _ _).mono ?_; rintro e w' ⟨rfl, rfl⟩)
  go_ret2
  exact ⟨rfl, rfl⟩
end Go.Proofs.Ytbpfdogjjoceaaa
