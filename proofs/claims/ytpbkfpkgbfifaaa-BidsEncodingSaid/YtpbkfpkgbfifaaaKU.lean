/- The model's Conflict, Less. -/
import Derived.Test.YtpbkfpkgbfifaaaKQ
namespace Go.Proofs.Ytpbkfpkgbfifaaa
open Go.RowKit

set_option maxHeartbeats 2000000 in
set_option maxRecDepth 100000 in
theorem refConflict_c (x y : Bd) (A1 A2 : Option Addr) (n1 c1 n2 c2 : Nat) (w : World) (h1 : Nums .i64 w A1 n1 c1 x.2.2) (h2 : Nums .i64 w A2 n2 c2 y.2.2) :
    Calls Try.prog 34 #[bdV x A1 n1 c1, bdV y A2 n2 c2] w (RetK w (confl x y)) := by
  obtain ⟨xb, xp, xl⟩ := x
  obtain ⟨yb, yp, yl⟩ := y
  unfold bdV
  simp only at h1 h2 ⊢
  have hm := h1.n63
  have hl := h1.len
  by_cases hb : xb = yb
  · have hd : (xb == yb) = true := by simp [hb]
    have HT := Lib.hid (show confl (xb, xp, xl) (yb, yp, yl) = true by simp [confl, hb])
    clear hb
    go_enter Try.func34, Try.ntmps34
    go_wp2_with fail
    go_ret
    exact ⟨ret_bool HT.out.symm, ((E.refl w).alloc _).alloc _⟩
  · have hd : (xb == yb) = false := by simp [hb]
    have HT := Lib.hid (show confl (xb, xp, xl) (yb, yp, yl) = xl.any fun t => yl.contains t by simp [confl, hb])
    have hE0 : E w ((w.alloc (.cells #[.int .i64 xb, .int .i64 xp, .slice A1 n1 c1] 53)).alloc (.cells #[.int .i64 yb, .int .i64 yp, .slice A2 n2 c2] 53)) := ((E.refl w).alloc _).alloc _
    clear hb
    go_enter Try.func34, Try.ntmps34
    go_wp2_with fail
    have hx2 : ((w.alloc (.cells #[.int .i64 xb, .int .i64 xp, .slice A1 n1 c1] 53)).alloc (.cells #[.int .i64 yb, .int .i64 yp, .slice A2 n2 c2] 53)).cell? ⟨w.heap.size, 2, none⟩ = some (.slice A1 n1 c1) := by
      rw [((E.refl _).alloc _).cell (p := ⟨w.heap.size, 2, none⟩) (by simp)]; exact cell_of_row _ _ 2 _ _ _ (heap_alloc_new w _)
    have hy2 : ((w.alloc (.cells #[.int .i64 xb, .int .i64 xp, .slice A1 n1 c1] 53)).alloc (.cells #[.int .i64 yb, .int .i64 yp, .slice A2 n2 c2] 53)).cell? ⟨w.heap.size + 1, 2, none⟩ = some (.slice A2 n2 c2) := by
      have := heap_alloc_new (w.alloc (.cells #[.int .i64 xb, .int .i64 xp, .slice A1 n1 c1] 53)) (.cells #[.int .i64 yb, .int .i64 yp, .slice A2 n2 c2] 53)
      rw [World.size_alloc] at this
      exact cell_of_row _ _ 2 _ _ _ this
    have hz0 : w.heap.size + 2 = ((w.alloc (.cells #[.int .i64 xb, .int .i64 xp, .slice A1 n1 c1] 53)).alloc (.cells #[.int .i64 yb, .int .i64 yp, .slice A2 n2 c2] 53)).heap.size := by simp
    generalize ((w.alloc (.cells #[.int .i64 xb, .int .i64 xp, .slice A1 n1 c1] 53)).alloc (.cells #[.int .i64 yb, .int .i64 yp, .slice A2 n2 c2] 53)) = w0 at *
    have HZ := Lib.hid hz0
    clear hz0
    go_loopw [5] (fun ti wr => ∃ k : Nat, k ≤ n1 ∧ ti = .int .i64 k ∧ E w0 wr ∧ Hid ((xl.drop k).any (fun t => yl.contains t) = xl.any fun t => yl.contains t)) (fun ti _ => n1 - (intOf ti).toNat)
    case atStart => exact ⟨0, Nat.zero_le _, rfl, E.refl _, rfl⟩
    case round =>
      obtain ⟨k, hk, rfl, hE, han⟩ := hrel
      have hcx : wr.cell? ⟨w.heap.size, 2, none⟩ = some (.slice A1 n1 c1) := by rw [hE.cell (p := ⟨w.heap.size, 2, none⟩) (by have := HZ.out; show w.heap.size < w0.heap.size; omega)]; exact hx2
      have hcy : wr.cell? ⟨w.heap.size + 1, 2, none⟩ = some (.slice A2 n2 c2) := by rw [hE.cell (p := ⟨w.heap.size + 1, 2, none⟩) (by have := HZ.out; show w.heap.size + 1 < w0.heap.size; omega)]; exact hy2
      by_cases hlt : (k : Int) < (n1 : Int)
      · obtain ⟨b, o, t, rfl, hbb, ht, hwt, hct⟩ := (h1.e (hE0.trans hE)).get (i := k) (by omega)
        have HD := Lib.hid (drop_at ht)
        clear ht hwt
        have hH := fun W (hW : E wr W) => has1_c A2 n2 c2 yl t W (((h2.e hE0).e hE).e hW)
        have HH := Lib.hid hH
        clear hH
        cases hc : yl.contains t
        · rw [hc] at HH
          have HN := Lib.hid (show (xl.drop (k + 1)).any (fun t => yl.contains t) = xl.any fun t => yl.contains t by rw [← han.out, HD.out, List.any_cons, hc, Bool.false_or])
          clear han
          go_wp2_with fail
          go_still_tail 7, (by kernel_rfl)
          go_wp2_with fail
          refine (HH.out _ ((E.refl wr).drew)).mono ?_
          rintro e w2 ⟨rfl, hE2⟩
          go_wp2_with fail
          go_roundw
          case rel => exact ⟨k + 1, by omega, by go_num, hE.trans (((E.refl wr).drew).trans hE2), HN.out⟩
          case measure => simp [intOf]; omega
        · rw [hc] at HH
          have HN := Lib.hid (show (xl.any fun t => yl.contains t) = true by rw [← han.out, HD.out, List.any_cons, hc, Bool.true_or])
          clear han
          go_wp2_with fail
          go_still_tail 7, (by kernel_rfl)
          go_wp2_with fail
          refine (HH.out _ ((E.refl wr).drew)).mono ?_
          rintro e w2 ⟨rfl, hE2⟩
          go_wp2_with fail
          go_ret
          exact ⟨ret_bool (by rw [HT.out, HN.out]), hE0.trans (hE.trans (((E.refl wr).drew).trans hE2))⟩
      · have HN := Lib.hid (show (xl.any fun t => yl.contains t) = false by rw [← han.out, drop_end hl (by omega)]; rfl)
        go_wp2_with fail
        go_ret
        exact ⟨ret_bool (by rw [HT.out, HN.out]), hE0.trans hE⟩
end Go.Proofs.Ytpbkfpkgbfifaaa
