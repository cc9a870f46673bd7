/- The package's Value, for any list of numbers. -/
import Derived.Test.YtpbkfpkgbfifaaaKRg
import Derived.Test.YtpbkfpkgbfifaaaKFe
namespace Go.Proofs.Ytpbkfpkgbfifaaa
open Go.RowKit

def prZ (l : List Bd) (i : Int) : Int := if 0 ≤ i ∧ i < l.length then pr l i.toNat else 0
def valZ (l : List Bd) (win : List Int) : Int := (win.map (prZ l)).sum
theorem prZ_range {l : List Bd} (hp : ∀ i, 0 ≤ pr l i ∧ pr l i ≤ 1099511627776) (i : Int) : 0 ≤ prZ l i ∧ prZ l i ≤ 1099511627776 := by
  unfold prZ
  split
  · exact hp _
  · omega
theorem valZ_range {l : List Bd} (hp : ∀ i, 0 ≤ pr l i ∧ pr l i ≤ 1099511627776) : ∀ win : List Int, 0 ≤ valZ l win ∧ valZ l win ≤ win.length * 1099511627776
  | [] => by simp [valZ]
  | i :: r => by
    have := valZ_range hp r
    have := prZ_range hp i
    simp only [valZ, List.map_cons, List.sum_cons, List.length_cons] at *
    omega
theorem valZ_snoc (l : List Bd) (win : List Int) (i : Int) : valZ l (win ++ [i]) = valZ l win + prZ l i := by simp [valZ]
theorem valZ_ints {l : List Bd} : ∀ c : List Nat, (∀ i ∈ c, i < l.length) → valZ l (ints c) = val l c
  | [], _ => rfl
  | i :: c, h => by
    have := valZ_ints (l := l) c fun j hj => h j (List.mem_cons_of_mem _ hj)
    have hi := h i List.mem_cons_self
    simp only [valZ, ints, List.map_cons, List.sum_cons, val] at *
    rw [this, prZ, if_pos (by omega)]
    simp
set_option maxHeartbeats 2000000 in
set_option maxRecDepth 100000 in
theorem bValue_c (A : Option Addr) (n c : Nat) (l : List Bd) (A2 : Option Addr) (n2 c2 : Nat) (win : List Int) (w : World) (h : BidsAt w A n c l) (h2 : Nums .i64 w A2 n2 c2 win) (hn : n2 ≤ 1000) (hp : ∀ i, 0 ≤ pr l i ∧ pr l i ≤ 1099511627776) :
    Calls Try.prog 31 #[.slice A n c, .slice A2 n2 c2] w fun e w' => e = .returned (.int .i64 (valZ l win)) ∧ E w w' := by
  have hm := h.n63
  have hl := h.len
  have hl2 := h2.len
  have HP := Lib.hid hp
  clear hp
  go_enter Try.func31, Try.ntmps31
  go_wp2_with fail
  go_loopw [5, 10] (fun ts ti wr => ∃ (k : Nat) (s : Int), k ≤ n2 ∧ ti = .int .i64 k ∧ ts = .int .i64 s ∧ Q w wr ∧ Hid (s = valZ l (win.take k))) (fun _ ti _ => n2 - (intOf ti).toNat)
  case atStart => exact ⟨0, 0, Nat.zero_le _, rfl, rfl, Q.refl _, rfl⟩
  case round =>
    obtain ⟨k, s, hk, rfl, rfl, hq, hs⟩ := hrel
    have hvr := valZ_range HP.out (win.take k)
    have hlk : (win.take k).length ≤ 1000 := by rw [List.length_take]; omega
    rw [← hs.out] at hvr
    have hs0 := hvr.1
    have hs1 : s ≤ 1099511627776000 := by omega
    clear hvr hlk
    by_cases hlt : (k : Int) < (n2 : Int)
    · obtain ⟨b2, o2, y, rfl, hb2, hy, hwy, hcy⟩ := (h2.q hq).get (i := k) (by omega)
      have hyr := wf_i64 hwy
      have HS := Lib.hid (show valZ l (win.take (k + 1)) = s + prZ l y by rw [List.take_add_one, hy, hs.out]; exact valZ_snoc l _ y)
      clear hs hy hwy
      by_cases y0 : 0 ≤ y
      · by_cases yn : y < (n : Int)
        · obtain ⟨yi, rfl⟩ : ∃ yi : Nat, y = yi := ⟨y.toNat, by omega⟩
          obtain ⟨b, o, x, A1, n1, c1, rfl, hb, hx, hv1, hv2, hN, hcs⟩ := h.item (i := yi) (by omega)
          obtain ⟨_, hc2, _⟩ := hcs wr (E.of_q hq)
          have hpx : prZ l (yi : Int) = x.2.1 := by rw [prZ, if_pos (by omega), pr, Int.toNat_natCast, List.getD_eq_getElem?_getD, hx]; rfl
          have hxr := prZ_range HP.out (yi : Int)
          rw [hpx] at hxr
          have HN := Lib.hid (show s + x.2.1 = valZ l (win.take (k + 1)) by rw [HS.out, hpx])
          obtain ⟨xb, xp, xl⟩ := x
          simp only at *
          obtain ⟨hx0, hx1⟩ := hxr
          clear hx hcs hN hpx HS hv1 hv2
          go_wp2_with fail
          exact ⟨⟨k + 1, s + xp, by omega, by go_num, rfl, hq, HN.out⟩, by simp [intOf]; omega⟩
        · have HN := Lib.hid (show s = valZ l (win.take (k + 1)) by rw [HS.out, prZ, if_neg (by omega)]; omega)
          clear HS
          go_wp2_with fail
          exact ⟨⟨k + 1, s, by omega, by go_num, rfl, hq, HN.out⟩, by simp [intOf]; omega⟩
      · have HN := Lib.hid (show s = valZ l (win.take (k + 1)) by rw [HS.out, prZ, if_neg (by omega)]; omega)
        clear HS
        go_wp2_with fail
        exact ⟨⟨k + 1, s, by omega, by go_num, rfl, hq, HN.out⟩, by simp [intOf]; omega⟩
    · have HF := Lib.hid (show s = valZ l win by rw [hs.out, List.take_of_length_le (by omega)])
      go_wp2_with fail
      go_ret
      exact ⟨ret_int HF.out, E.of_q hq⟩
end Go.Proofs.Ytpbkfpkgbfifaaa
