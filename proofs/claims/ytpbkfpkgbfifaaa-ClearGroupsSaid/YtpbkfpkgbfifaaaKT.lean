
/- Without; the model's small functions: Conflict, Choice. -/
import Derived.Test.YtpbkfpkgbfifaaaKS
namespace Go.Proofs.Ytpbkfpkgbfifaaa
open Go.RowKit

def withoutF (N : Int) (l : List Bd) (bd : Int) : Int × Int := if validS N l = 0 then ((bestS (l.filter fun x => x.1 != bd)).2, 0) else (0, validS N l)
set_option maxHeartbeats 1000000 in
theorem choice_c (b n : Nat) (w : World) (hn : n ≤ 1000) (hb : b ≤ 1099511627776) :
    Calls Try.prog 27 #[.int .i64 b, .int .i64 n] w (RetOwn .i64 3 w (ints (chF 0 n b))) := by
  go_enter Try.func27, Try.ntmps27
  go_wp2_with fail
  go_loopw [0, 5, 6] (fun t0 t5 ti wr => ∃ (k bb c' : Nat) (out : List Nat) (A' : Option Addr), k ≤ n ∧ ti = .int .i64 k ∧ t0 = .int .i64 bb ∧ bb ≤ 1099511627776 ∧ t5 = .slice A' out.length c' ∧ out.length ≤ k ∧ Own .i64 3 wr w.heap.size A' out.length c' (ints out) ∧ E w wr ∧ Hid (out ++ chF k (n - k) bb = chF 0 n b)) (fun _ _ ti _ => n - (intOf ti).toNat)
  case atStart => exact ⟨0, b, 0, [], none, Nat.zero_le _, rfl, rfl, hb, rfl, Nat.le_refl _, Own.nil _ _ _ _, E.refl _, rfl⟩
  case round =>
    obtain ⟨k, bb, c', out, A', hk, rfl, rfl, hbb, rfl, hol, hO, hE, hch⟩ := hrel
    have hle := hE.le
    by_cases hlt : (k : Int) < (n : Int)
    · have hst : chF k (n - k) bb = if bb % 2 = 1 then k :: chF (k + 1) (n - (k + 1)) (bb / 2) else chF (k + 1) (n - (k + 1)) (bb / 2) := by
        rw [show n - k = (n - (k + 1)) + 1 by omega, chF]
      have hdv : (bb : Int) / 2 = ((bb / 2 : Nat) : Int) := by omega
      by_cases ho : bb % 2 = 1
      · have hd : ((bb : Int) % 2 == 1) = true := by simp; omega
        have HC := Lib.hid (show (out ++ [k]) ++ chF (k + 1) (n - (k + 1)) (bb / 2) = chF 0 n b by rw [← hch.out, hst, if_pos ho, List.append_assoc]; rfl)
        have HDV := Lib.hid hdv
        clear hch hst ho hdv
        go_wp2_with (at_builtin; refine wpList_app1n intTk _ rfl _ _ rfl _ _ _ _ _ rfl hO _ rfl (wf_of_i64 (by omega) (by omega)) (by omega) hle ?_; intro g' c2 w1 hO1 hG1 hB1 hor1)
        have hO1' : Own .i64 3 w1 w.heap.size (some ⟨g', 0, none⟩) (out ++ [k]).length c2 (ints (out ++ [k])) := by rw [List.length_append, ints_app]; exact hO1
        have hE1 := hE.up hB1
        have hl1 : (out ++ [k]).length = out.length + 1 := by simp
        first
          | exact ⟨⟨k + 1, bb / 2, c2, out ++ [k], some ⟨g', 0, none⟩, by omega, by go_num, by rw [HDV.out], by omega, by rw [hl1], by omega, hO1', hE1, HC.out⟩, by simp [intOf]; omega⟩
          | (go_roundw
             case rel => exact ⟨k + 1, bb / 2, c2, out ++ [k], some ⟨g', 0, none⟩, by omega, by go_num, by rw [HDV.out], by omega, by rw [hl1], by omega, hO1', hE1, HC.out⟩
             case measure => simp [intOf]; omega)
      · have hd : ((bb : Int) % 2 == 1) = false := by simp; omega
        have HC := Lib.hid (show out ++ chF (k + 1) (n - (k + 1)) (bb / 2) = chF 0 n b by rw [← hch.out, hst, if_neg ho])
        have HDV := Lib.hid hdv
        clear hch hst ho hdv
        go_wp2_with fail
        first
          | exact ⟨⟨k + 1, bb / 2, c', out, A', by omega, by go_num, by rw [HDV.out], by omega, rfl, by omega, hO, hE, HC.out⟩, by simp [intOf]; omega⟩
          | (go_roundw
             case rel => exact ⟨k + 1, bb / 2, c', out, A', by omega, by go_num, by rw [HDV.out], by omega, rfl, by omega, hO, hE, HC.out⟩
             case measure => simp [intOf]; omega)
    · have HF := Lib.hid (show out = chF 0 n b by rw [← hch.out, show n - k = 0 by omega]; simp [chF])
      go_wp2_with fail
      go_ret
      exact RetOwn.mk_ (by rw [HF.out]) hO hE
end Go.Proofs.Ytpbkfpkgbfifaaa
