/- The contract of combine. -/
import Derived.Test.YtbpfdogjjoceaaaC
namespace Go.Proofs.Ytbpfdogjjoceaaa
open Go.RowKit

theorem bag_fit_get {a b : List Int} (h : fitB a b = true) {k : Nat} (hk : k < b.length) : ∃ x, a[k]? = some x := ⟨_, List.getElem?_eq_getElem (by rw [fit_len h]; exact hk)⟩

set_option maxHeartbeats 1000000 in
theorem combine_c (F : FuncId) (caps : List Value) (f : Int → Int → Int × Int) (A1 A2 : Option Addr) (n c1 c2 : Nat) (l1 l2 : List Int) (w : World) (h1 : Nums .i64 w A1 n c1 l1) (h2 : Nums .i64 w A2 n c2 l2)
    (hcall : ∀ (args : Array Value) (wr : World), (callFunc F args).run Try.prog wr = .ok (.enter F args) wr)
    (hb1 : isBagB l1 = true) (hb2 : isBagB l2 = true)
    (hf : ∀ (x y : Int) (wr : World), E w wr → 0 ≤ x → x ≤ 1099511627776 → 0 ≤ y → y ≤ 1099511627776 →
      Calls Try.prog F (.int .i64 x :: .int .i64 y :: caps).toArray wr fun e w' => e = .returned (.tuple #[.int .i64 (f x y).1, .int .i64 (f x y).2]) ∧ wr = w')
    (hfw : ∀ x y : Int, 0 ≤ x → x ≤ 1099511627776 → 0 ≤ y → y ≤ 1099511627776 → 0 ≤ (f x y).1 ∧ (f x y).1 ≤ 9223372036854775807) :
    Calls Try.prog 50 #[.slice A1 n c1, .slice A2 n c2, .func (.func F) #[] caps.toArray] w (RetOwnErr .i64 3 w (combF f l1 l2)) := by
  have hm := h1.n63
  have hn64 : n ≤ 64 := by have := isBag_len hb1; rw [h1.len] at this; exact this
  have HB1 := Lib.hid hb1
  have HB2 := Lib.hid hb2
  have HF := Lib.hid hf
  have HW := Lib.hid hfw
  clear hb1 hb2 hf hfw
  go_enter Try.func50, Try.ntmps50
  go_wp2_with (first
    | (at_make; refine wpList_mk intT _ rfl _ _ rfl _ _ _ _ n rfl rfl rfl rfl (by omega) ?_; intro w1 hO1 hE1 hsz1)
    | (with_reducible refine wpList_cp intT _ rfl (.tmp 16) (.tmp 17) rfl w.heap.size _ _ _ _ _ _ l1 rfl rfl hO1 rfl (h1.e hE1) ?_; intro w2 hO2 hB2))
  go_loopw [21] (fun i wr => ∃ (k : Nat) (out : List Int), k ≤ n ∧ i = .int .i64 k ∧ Hid (out.length = k) ∧ Own .i64 3 wr w.heap.size (some ⟨w.heap.size, 0, none⟩) n n (out ++ l1.drop k) ∧ E w wr ∧ Hid (pre out (combF f (l1.drop k) (l2.drop k)) = combF f l1 l2)) (fun i _ => n - (intOf i).toNat)
  case atStart => exact ⟨0, [], Nat.zero_le _, rfl, rfl, hO2, hE1.up hB2, pre_nil _ _ _⟩
  case round =>
    obtain ⟨k, out, hk, rfl, hol, hO, hE, hs⟩ := hrel
    have hle := hE.le
    by_cases hlt : k < n
    · obtain ⟨x, _, hg2, hx, hwx, hc1, hfr⟩ := hO.getg hlt
      rw [mid_get hol.out] at hx
      obtain ⟨b2, o2, y, rfl, hb2, hy, hwy, hc2⟩ := (h2.e hE).get hlt
      obtain ⟨x0, x1⟩ := isBag_get HB1.out hx
      obtain ⟨y0, y1⟩ := isBag_get HB2.out hy
      have HFW := Lib.hid (HW.out x y x0 x1 y0 y1)
      have HX := Lib.hid hx
      have HY := Lib.hid hy
      clear hx hy hwx hwy
      by_cases he : (f x y).2 = 0
      · have hd : ((f x y).2 != 0) = false := by simp [he]
        have HE := Lib.hid he
        clear he
        go_wp2_with fail
        refine (HF.out x y _ hE x0 x1 y0 y1).mono ?_
        rintro e w' ⟨rfl, rfl⟩
        go_wp2
        go_roundw
        case rel => exact ⟨k + 1, out ++ [(f x y).1], by omega, by go_num, show _ = _ by simp [hol.out], (hO.set k _ (wf_of_i64 (by have := HFW.out; omega) HFW.out.2)).cast (mid_set hol.out HX.out), hE.setCell (by simp) _, show _ = _ by rw [← hs.out, comb_ok HX.out HY.out HE.out]⟩
        case measure => simp [intOf]; omega
      · have hd : ((f x y).2 != 0) = true := by simpa using he
        go_wp2_with fail
        refine (HF.out x y _ hE x0 x1 y0 y1).mono ?_
        rintro e w' ⟨rfl, rfl⟩
        go_wp2
        go_ret2
        exact RetOwnErr.mk_ (by rw [← hs.out, comb_err HX.out HY.out he]) (Own.nil _ _ _ _) hE
    · have HF := Lib.hid (show combF f l1 l2 = (out ++ l1.drop k, 0) by rw [← hs.out, drop_end h1.len (by omega), comb_end, List.append_nil])
      go_wp2
      go_ret2
      exact RetOwnErr.mk_ HF.out hO hE

theorem lim1_ok {x : Int} (h0 : 0 ≤ x) (h : x ≤ 9223372036854775807) : 0 ≤ (lim1 x).1 ∧ (lim1 x).1 ≤ 9223372036854775807 := by
  unfold lim1; split <;> simp <;> omega
theorem sub1_ok {x y : Int} (h0 : 0 ≤ x) (h1 : 0 ≤ y) (h : x ≤ 1099511627776) : 0 ≤ (sub1 x y).1 ∧ (sub1 x y).1 ≤ 9223372036854775807 := by
  unfold sub1; split <;> simp <;> omega

set_option maxHeartbeats 400000 in
theorem times_c (A : Option Addr) (n c : Nat) (l : List Int) (q : Int) (w : World) (h : Nums .i64 w A n c l) :
    Calls Try.prog 14 #[.slice A n c, .int .i64 q] w (RetOwnErr .i64 3 w (timesS l q)) := by
  have hm := h.n63
  have hE0 := (E.refl w).alloc (.cells #[.int .i64 q] 3)
  have h' := h.e hE0
  by_cases hyes : isBagB l = true ∧ 0 ≤ q ∧ q ≤ 1048576
  · have HT := Lib.hid (show timesS l q = combF (fun _ y => tm1 q y) l l by rw [timesS, if_pos hyes])
    obtain ⟨hbag, hq0, hq1⟩ := hyes
    go_enter Try.func14, Try.ntmps14
    go_wp2_with (go_at_call 49; refine (isBag_c _ _ _ _ _ h').mono ?_; rintro e w' ⟨rfl, rfl⟩)
    refine (combine_c 51 [.pointer (some ⟨w.heap.size, 0, none⟩)] (fun _ y => tm1 q y) _ _ _ _ _ _ _ _ h' h' Try.call51 hbag hbag ?_ ?_).mono ?_
    · intro x y wr hEr x0 x1 y0 y1
      exact times1_c x y q _ wr (by rw [hEr.cell (by simp)]; exact cell_new _ _ _) y0 y1 hq0 hq1
    · intro x y x0 x1 y0 y1
      obtain ⟨z0, z1⟩ := mul60 y0 y1 hq0 hq1
      exact lim1_ok z0 (by omega)
    · rintro e w' ⟨A', n', c', rfl, hO, hE⟩
      go_wp2
      go_ret2
      exact RetOwnErr.mk_ HT.out (hO.rebase (by simp)) (hE0.trans hE)
  · have HT := Lib.hid (timesS_no hyes)
    have HE : Hid (RetOwnErr .i64 3 w (timesS l q) (.returned (.tuple #[.slice none 0 0, .int .i64 1])) (w.alloc (.cells #[.int .i64 q] 3))) := RetOwnErr.mk_ HT.out (Own.nil _ _ _ _) hE0
    clear HT
    cases hbag : isBagB l
    · go_enter Try.func14, Try.ntmps14
      go_wp2_with (go_at_call 49; refine (isBag_c _ _ _ _ _ h').mono ?_; rintro e w' ⟨rfl, rfl⟩)
      go_ret2
      exact HE.out
    · by_cases hq0 : q < 0
      · go_enter Try.func14, Try.ntmps14
        go_wp2_with (go_at_call 49; refine (isBag_c _ _ _ _ _ h').mono ?_; rintro e w' ⟨rfl, rfl⟩)
        go_ret2
        exact HE.out
      · have hq1 : 1048576 < q := by
          have h0 : ¬ (0 ≤ q ∧ q ≤ 1048576) := fun hh => hyes ⟨hbag, hh⟩
          omega
        go_enter Try.func14, Try.ntmps14
        go_wp2_with (go_at_call 49; refine (isBag_c _ _ _ _ _ h').mono ?_; rintro e w' ⟨rfl, rfl⟩)
        go_ret2
        exact HE.out
end Go.Proofs.Ytbpfdogjjoceaaa
