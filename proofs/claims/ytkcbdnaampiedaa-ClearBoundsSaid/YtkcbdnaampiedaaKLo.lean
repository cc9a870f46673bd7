/- The model's prices of lots; the package's Value. -/
import Derived.Test.YtkcbdnaampiedaaKBo
namespace Go.Proofs.Ytkcbdnaampiedaa
open Go.RowKit

def lotsP (n : Nat) (l : List Int) : List Int := (List.range n).map fun i => pickV l i 12
theorem lotsP_len (n : Nat) (l : List Int) : (lotsP n l).length = n := by simp [lotsP]
theorem lotsP_ok (n : Nat) (l : List Int) : ∀ x ∈ lotsP n l, 0 ≤ x ∧ x < 12 := fun x hx => by
  obtain ⟨i, _, rfl⟩ := List.mem_map.1 hx
  exact pickV_range l i (by omega)
theorem lotsP_snoc (n : Nat) (l : List Int) : lotsP (n + 1) l = lotsP n l ++ [pickV l n 12] := by simp [lotsP, List.range_succ]
set_option maxHeartbeats 1000000 in
theorem rLots_c (n : Nat) (A : Option Addr) (m c : Nat) (l : List Int) (w : World) (h : Nums .i64 w A m c l) (hn : n ≤ 1000) :
    Calls Try.prog 19 #[.int .i64 n, .slice A m c] w (RetOwn .i64 3 w (lotsP n l)) := by
  go_enter Try.func19, Try.ntmps19
  go_wp2_with fail
  go_loopw [5, 6] (fun tw ti wr => ∃ (k c' : Nat) (A' : Option Addr), k ≤ n ∧ ti = .int .i64 k ∧ tw = .slice A' k c' ∧ Own .i64 3 wr w.heap.size A' k c' (lotsP k l) ∧ E w wr) (fun _ ti _ => n - (intOf ti).toNat)
  case atStart => exact ⟨0, 0, none, Nat.zero_le _, rfl, rfl, Own.nil _ _ _ _, E.refl _⟩
  case round =>
    obtain ⟨k, c', A', hk, rfl, rfl, hO, hE⟩ := hrel
    by_cases hlt : (k : Int) < (n : Int)
    · have HP := Lib.hid (pick1_c A m c l k 12 wr (h.e hE) (by omega) (by omega) (by omega))
      have hpr := pickV_range l k (m := 12) (by omega)
      have HS := Lib.hid (lotsP_snoc k l)
      generalize pickV l k 12 = pv at *
      obtain ⟨hp0, hp1⟩ := hpr
      have hle := hE.le
      go_wp2_with fail
      refine HP.out.mono ?_
      rintro e w2 ⟨rfl, hE2⟩
      have hO2 := hO.e hE2
      have hEw2 := hE.trans hE2
      have hle2 := hEw2.le
      go_wp2_with (at_builtin; refine wpList_app1n intTk _ rfl _ _ rfl _ _ _ _ _ rfl hO2 _ rfl (wf_of_i64 (by omega) (by omega)) (by omega) hle2 ?_; intro g' c2 w3 hO3 hG3 hB3 hor3)
      have hO3' := hO3.cast HS.out.symm
      have hE3 := hEw2.up hB3
      first
        | exact ⟨⟨k + 1, c2, some ⟨g', 0, none⟩, by omega, by go_num, rfl, hO3', hE3⟩, by simp [intOf]; omega⟩
        | (go_roundw
           case rel => exact ⟨k + 1, c2, some ⟨g', 0, none⟩, by omega, by go_num, rfl, hO3', hE3⟩
           case measure => simp [intOf]; omega)
    · have HF := Lib.hid (show k = n by omega)
      go_wp2_with fail
      go_ret
      exact RetOwn.mk_ (by rw [HF.out]) hO hE
end Go.Proofs.Ytkcbdnaampiedaa
