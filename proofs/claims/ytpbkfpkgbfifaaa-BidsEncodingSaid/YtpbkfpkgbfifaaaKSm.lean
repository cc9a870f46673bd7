/- Same of the reference on one list that lies twice; the plain law of the encoding. -/
import Derived.Test.YtpbkfpkgbfifaaaKTa
import Derived.BigQuiet
namespace Go.Proofs.Ytpbkfpkgbfifaaa
open Go.RowKit

set_option maxHeartbeats 2000000 in
set_option maxRecDepth 100000 in
theorem refSame_c (A1 A2 : Option Addr) (n1 c1 n2 c2 : Nat) (l : List Bd) (w : World) (h1 : BidsAt w A1 n1 c1 l) (h2 : BidsAt w A2 n2 c2 l) :
    Calls Try.prog 41 #[.slice A1 n1 c1, .slice A2 n2 c2] w (RetK w true) := by
  have m1 := h1.n63
  obtain rfl : n1 = n2 := h1.len.symm.trans h2.len
  go_enter Try.func41, Try.ntmps41
  go_wp2_with fail
  go_loopw [5] (fun i wr => ∃ k : Nat, k ≤ n1 ∧ i = .int .i64 k ∧ E w wr) (fun i _ => n1 - (intOf i).toNat)
  case atStart => exact ⟨0, Nat.zero_le _, rfl, E.refl _⟩
  case round =>
    obtain ⟨k, hk, rfl, hE⟩ := hrel
    by_cases hlt : k < n1
    · obtain ⟨b1, o1, x, B1, p1, q1, rfl, hb1, hx, hv1, hv2, hN1, hcs1⟩ := h1.item hlt
      obtain ⟨b2, o2, x', B2, p2, q2, rfl, hb2, hx', _, _, hN2, hcs2⟩ := h2.item hlt
      rw [hx] at hx'
      injection hx' with hx'
      subst hx'
      obtain ⟨d1, d2, d3⟩ := hcs1 wr hE
      obtain ⟨f1, f2, f3⟩ := hcs2 wr hE
      have HC := Lib.hid (fun W (hW : E wr W) => sameInts_e B1 B2 p1 q1 p2 q2 x.2.2 x.2.2 W ((hN1.e hE).e hW) ((hN2.e hE).e hW))
      rw [show sameB x.2.2 x.2.2 = true by simp [sameB]] at HC
      have hkI : (k : Int) < (n1 : Int) := by omega
      clear hx hcs1 hcs2
      generalize x.2.1 = xb at *
      generalize x.1 = xa at *
      have hbr1 := Nat.lt_of_lt_of_le hb1 hE.le
      have hbr2 := Nat.lt_of_lt_of_le hb2 hE.le
      go_wp2_with fail
      go_still_tail 10, (by kernel_rfl)
      go_wp2_with fail
      refine (HC.out _ ((E.refl wr).drew)).mono ?_
      rintro e w4 ⟨rfl, hE1⟩
      have hE4 := ((E.refl wr).drew).trans hE1
      have d1' := (hE4.cell (p := ⟨b1, o1 + k * 3, none⟩) hbr1).trans d1
      have d2' := (hE4.cell (p := ⟨b1, o1 + k * 3 + 1, none⟩) hbr1).trans d2
      have f1' := (hE4.cell (p := ⟨b2, o2 + k * 3, none⟩) hbr2).trans f1
      have f2' := (hE4.cell (p := ⟨b2, o2 + k * 3 + 1, none⟩) hbr2).trans f2
      clear d1 d2 d3 f1 f2 f3
      have hE5 := hE.trans hE4
      go_wp2_with fail
      have e1 : (xa != xa) = false := by simp
      have e2 : (xb != xb) = false := by simp
      go_quiet (fail)
      go_wp2_with fail
      go_roundw
      case rel => exact ⟨k + 1, by omega, by go_num, hE5.drewN _⟩
      case measure => simp [intOf]; omega
    · go_wp2_with fail
      go_ret
      exact ⟨rfl, hE⟩
end Go.Proofs.Ytpbkfpkgbfifaaa
