/- The model's surplus, Bound and Lots (prices). -/
import Derived.Test.YtkcbdnaampiedaaKZ
import Derived.Test.YtkcbdnaampiedaaCC
namespace Go.Proofs.Ytkcbdnaampiedaa
open Go.RowKit

theorem sur_range {ps : List Int} {b : Int} : ∀ (l : List Bd) (a : Int), 0 ≤ a → a ≤ 1099511627776 → (∀ x ∈ l, ownS ps x ≤ 1099511627776) → 0 ≤ l.foldl (sstep ps b) a ∧ l.foldl (sstep ps b) a ≤ 1099511627776
  | [], a, h0, h1, _ => ⟨h0, h1⟩
  | x :: l, a, h0, h1, h => by
    rw [List.foldl_cons]
    have hx := h x List.mem_cons_self
    refine sur_range l _ ?_ ?_ fun y hy => h y (List.mem_cons_of_mem _ hy)
    · unfold sstep; split <;> omega
    · unfold sstep; split <;> omega
theorem own_range {N : Int} {l : List Bd} (hv : validS N l = 0) {ps : List Int} (hp : ∀ x ∈ ps, 0 ≤ x ∧ x ≤ 1099511627776) {x : Bd} (hx : x ∈ l) : ownS ps x ≤ 1099511627776 ∧ 1 ≤ x.2.1 ∧ x.2.1 ≤ 1099511627776 ∧ x.2.2.length ≤ 8 ∧ ∀ t ∈ x.2.2, 0 ≤ t ∧ t < N := by
  have h1 := validS_ok hv
  have h2 : bidE N x = 0 := by
    unfold validS at hv
    split at hv
    · omega
    · split at hv
      · omega
      · exact validF_ok hv x hx
  have h3 := bidE_ok h2
  have h4 := lotsOk_len h3.2.2.2 (by omega)
  have h5 := lsum_range hp x.2.2
  refine ⟨by unfold ownS; omega, h3.2.1, h3.2.2.1, by omega, fun t ht => ?_⟩
  have := lotsOk_mem h3.2.2.2 t ht
  omega
set_option maxHeartbeats 4000000 in
set_option maxRecDepth 100000 in
theorem surplus_c (N : Int) (A : Option Addr) (n c : Nat) (l : List Bd) (bd : Int) (Ap : Option Addr) (np cp : Nat) (ps : List Int) (w : World) (h : BidsAt w A n c l) (hps : Nums .i64 w Ap np cp ps) (hv : validS N l = 0) (hnp : (np : Int) = N) (hp : ∀ x ∈ ps, 0 ≤ x ∧ x ≤ 1099511627776) :
    Calls Try.prog 40 #[.slice A n c, .int .i64 bd, .slice Ap np cp] w fun e w' => e = .returned (.int .i64 (sur ps l bd)) ∧ E w w' := by
  have hl := h.len
  have hm := h.n63
  have hpl := hps.len
  have HV := Lib.hid hv
  have HP := Lib.hid hp
  have HNP := Lib.hid hnp
  obtain ⟨fin, hfin⟩ : ∃ fin, sur ps l bd = fin := ⟨_, rfl⟩
  rw [hfin]
  have HFIN := Lib.hid hfin
  clear hfin hv hp hnp
  go_enter Try.func40, Try.ntmps40
  go_wp2_with fail
  go_loopw [7, 8] (fun tout ti wr => ∃ (i : Nat) (out : Int), i ≤ n ∧ ti = .int .i64 i ∧ tout = .int .i64 out ∧ Q w wr ∧ 0 ≤ out ∧ out ≤ 1099511627776 ∧ Hid (out = sur ps (l.take i) bd)) (fun _ ti _ => n - (intOf ti).toNat)
  case atStart => exact ⟨0, 0, Nat.zero_le _, rfl, rfl, Q.refl _, by omega, by omega, rfl⟩
  case round =>
    obtain ⟨i, out, hi, rfl, rfl, hq, ho0, ho1, hout⟩ := hrel
    by_cases hil : (i : Int) < (n : Int)
    · obtain ⟨b, o, x, A1, n1, c1, rfl, hb, hx, hv1, hv2, hN, hcs⟩ := h.item (i := i) (by omega)
      have hxr := own_range HV.out HP.out (List.mem_of_getElem? hx)
      obtain ⟨hc1, hc2, hc3⟩ := hcs wr (E.of_q hq)
      have hn1 := hN.n63
      have hnl := hN.len
      have HS := Lib.hid (show sur ps (l.take (i + 1)) bd = if x.1 = bd ∧ out < ownS ps x then ownS ps x else out by
        rw [List.take_add_one, hx]
        show sur ps (l.take i ++ [x]) bd = _
        rw [sur_snoc, ← hout.out]; rfl)
      have hN' := hN.q hq
      have HCS := Lib.hid hcs
      obtain ⟨xb, xp, xl⟩ := x
      simp only at *
      obtain ⟨hx1, hx2, hx3, hx4, hx5⟩ := hxr
      have HX5 := Lib.hid hx5
      have hn8 : n1 ≤ 8 := by omega
      have HOWN := Lib.hid (show ownS ps (xb, xp, xl) = xp - lsum ps xl from rfl)
      generalize ownS ps (xb, xp, xl) = ow at *
      clear hx5 hout hx hcs hx4
      go_wp2_with fail
      go_loopw [9, 10] (fun ts tk wr2 => ∃ (k : Nat) (s : Int), k ≤ n1 ∧ tk = .int .i64 k ∧ ts = .int .i64 s ∧ Q wr wr2 ∧ -8796093022208 ≤ s ∧ s ≤ 1099511627776 ∧ Hid (s = xp - lsum ps (xl.take k))) (fun _ tk _ => n1 - (intOf tk).toNat)
      case atStart => exact ⟨0, xp, Nat.zero_le _, rfl, rfl, Q.refl _, by omega, by omega, show xp = xp - lsum ps (xl.take 0) by simp [lsum]⟩
      case round =>
        obtain ⟨k, s, hk, rfl, rfl, hq2, hs0, hs1, hs⟩ := hrel
        have hqq := hq.trans hq2
        obtain ⟨hc1, hc2, hc3⟩ := HCS.out _ (E.of_q hqq)
        by_cases hkl : (k : Int) < (n1 : Int)
        · obtain ⟨b2, o2, t, rfl, hb2, ht, hwt, hct⟩ := (hN'.q hq2).get (i := k) (by omega)
          have htr := HX5.out t (List.mem_of_getElem? ht)
          obtain ⟨tn, rfl⟩ : ∃ tn : Nat, t = tn := ⟨t.toNat, by omega⟩
          obtain ⟨b3, o3, p, rfl, hb3, hpp, hwp, hcp⟩ := (hps.q hqq).get (i := tn) (by have := HNP.out; omega)
          have hpr := HP.out p (List.mem_of_getElem? hpp)
          have htI : (tn : Int) < (np : Int) := by have := HNP.out; omega
          have HN := Lib.hid (show s - p = xp - lsum ps (xl.take (k + 1)) by
            rw [List.take_add_one, ht, lsum_app, hs.out]
            show _ = xp - (lsum ps (xl.take k) + lsum ps [(tn : Int)])
            simp only [lsum, Int.toNat_natCast]
            rw [List.getD_eq_getElem?_getD, hpp]
            simp only [Option.getD_some]
            omega)
          have hlr := lsum_range HP.out (xl.take (k + 1))
          have hlk : (xl.take (k + 1)).length ≤ 8 := by rw [List.length_take]; omega
          have hs2 : -8796093022208 ≤ s - p := by have := HN.out; omega
          have hs3 : s - p ≤ 1099511627776 := by omega
          clear hs ht hwt hpp hwp htr hlr hlk
          go_wp2_with fail
          try go_quiet (fail)
          all_goals go_wp2_with fail
          first
            | exact ⟨⟨k + 1, s - p, by omega, by go_num, rfl, hq2, hs2, hs3, HN.out⟩, by simp [intOf]; omega⟩
            | exact ⟨⟨k + 1, s - p, by omega, by go_num, rfl, hq2.drewN _, hs2, hs3, HN.out⟩, by simp [intOf]; omega⟩
        · have HE := Lib.hid (show s = ow by rw [HOWN.out, hs.out, List.take_of_length_le (by omega)])
          clear hs
          by_cases hbb : xb = bd
          · have hd : (xb == bd) = true := by simp [hbb]
            by_cases hos : out < s
            · have HN := Lib.hid (show s = sur ps (l.take (i + 1)) bd by rw [HS.out, ← HE.out, if_pos ⟨hbb, hos⟩])
              clear hbb
              go_wp2_with fail
              exact ⟨⟨i + 1, s, by omega, by go_num, rfl, hqq, by omega, by omega, HN.out⟩, by simp [intOf]; omega⟩
            · have HN := Lib.hid (show out = sur ps (l.take (i + 1)) bd by rw [HS.out, ← HE.out, if_neg (fun h => hos h.2)])
              clear hbb
              go_wp2_with fail
              exact ⟨⟨i + 1, out, by omega, by go_num, rfl, hqq, by omega, by omega, HN.out⟩, by simp [intOf]; omega⟩
          · have hd : (xb == bd) = false := by simp [hbb]
            have HN := Lib.hid (show out = sur ps (l.take (i + 1)) bd by rw [HS.out, if_neg (fun h => hbb h.1)])
            clear hbb
            go_wp2_with fail
            exact ⟨⟨i + 1, out, by omega, by go_num, rfl, hqq, by omega, by omega, HN.out⟩, by simp [intOf]; omega⟩
    · have HF := Lib.hid (show out = fin by rw [hout.out, ← HFIN.out, List.take_of_length_le (by omega)])
      clear hout
      go_wp2_with fail
      go_ret
      exact ⟨ret_int HF.out, E.of_q hq⟩
end Go.Proofs.Ytkcbdnaampiedaa
