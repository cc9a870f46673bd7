/- The model's Value. -/
import Derived.Test.YtpbkfpkgbfifaaaKV
namespace Go.Proofs.Ytpbkfpkgbfifaaa
open Go.RowKit

theorem val_le {l : List Bd} (hp : ∀ i, 0 ≤ pr l i ∧ pr l i ≤ 1099511627776) : ∀ c : List Nat, 0 ≤ val l c ∧ val l c ≤ c.length * 1099511627776
  | [] => by simp [val]
  | i :: c => by have := val_le hp c; have := hp i; simp only [val, List.length_cons]; omega
set_option maxHeartbeats 2000000 in
set_option maxRecDepth 100000 in
theorem refValue_c (A : Option Addr) (n c : Nat) (l : List Bd) (A2 : Option Addr) (n2 c2 : Nat) (ch : List Nat) (w : World) (h : BidsAt w A n c l) (h2 : Nums .i64 w A2 n2 c2 (ints ch)) (hc : ∀ i ∈ ch, i < n) (hn : n2 ≤ 1000) (hp : ∀ i, 0 ≤ pr l i ∧ pr l i ≤ 1099511627776) :
    Calls Try.prog 36 #[.slice A n c, .slice A2 n2 c2] w fun e w' => e = .returned (.int .i64 (val l ch)) ∧ E w w' := by
  have hm := h.n63
  have HL2 := Lib.hid (show ch.length = n2 by rw [← ints_len]; exact h2.len)
  have HC := Lib.hid hc
  have HP := Lib.hid hp
  clear hc hp
  go_enter Try.func36, Try.ntmps36
  go_wp2_with fail
  go_loopw [5, 6] (fun ts ti wr => ∃ k : Nat, k ≤ n2 ∧ ti = .int .i64 k ∧ ts = .int .i64 (val l (ch.take k)) ∧ Q w wr) (fun _ ti _ => n2 - (intOf ti).toNat)
  case atStart => exact ⟨0, Nat.zero_le _, rfl, rfl, Q.refl _⟩
  case round =>
    obtain ⟨k, hk, rfl, rfl, hq⟩ := hrel
    have hvl := val_le HP.out (ch.take k)
    have hkl : (ch.take k).length = k := by rw [List.length_take]; have := HL2.out; omega
    rw [hkl] at hvl
    by_cases l2 : (k : Int) < (n2 : Int)
    · obtain ⟨b2, o2, y, rfl, hb2, hy, hwy, hcy⟩ := (h2.q hq).get (i := k) (by omega)
      obtain ⟨ci, hci, rfl⟩ : ∃ ci : Nat, ch[k]? = some ci ∧ (ci : Int) = y := by
        rw [ints, List.getElem?_map] at hy
        cases e : ch[k]? with
        | none => rw [e] at hy; simp at hy
        | some z => rw [e] at hy; exact ⟨z, rfl, by simpa using hy⟩
      have hcn := HC.out ci (List.mem_of_getElem? hci)
      obtain ⟨b, o, x, A1, n1, c1, rfl, hb, hx, hv1, hv2, hN, hcs⟩ := h.item hcn
      obtain ⟨_, hc2, _⟩ := hcs wr (E.of_q hq)
      have hpx : pr l ci = x.2.1 := by rw [pr, List.getD_eq_getElem?_getD, hx]; rfl
      have hpr := HP.out ci
      rw [hpx] at hpr
      have HS := Lib.hid (show val l (ch.take (k + 1)) = val l (ch.take k) + x.2.1 by
        rw [List.take_add_one, hci, val_app]
        simp [val, hpx])
      generalize val l (ch.take k) = s0 at *
      obtain ⟨xb, xp, xl⟩ := x
      simp only at *
      have hcI : (ci : Int) < (n : Int) := by omega
      have hci0 : (0 : Int) ≤ (ci : Int) := by omega
      clear hci hy hwy hx hcs hN hpx hkl
      go_wp2_with fail
      exact ⟨⟨k + 1, by omega, by go_num, by rw [HS.out], hq⟩, by simp [intOf]; omega⟩
    · have HF := Lib.hid (show val l (ch.take k) = val l ch by rw [List.take_of_length_le (by have := HL2.out; omega)])
      go_wp2_with fail
      go_ret
      exact ⟨ret_int HF.out, E.of_q hq⟩
end Go.Proofs.Ytpbkfpkgbfifaaa
