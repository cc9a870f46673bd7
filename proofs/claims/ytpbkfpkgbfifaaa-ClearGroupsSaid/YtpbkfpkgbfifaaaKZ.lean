/- The model's Valid. -/
import Derived.Test.YtpbkfpkgbfifaaaKW
namespace Go.Proofs.Ytpbkfpkgbfifaaa
open Go.RowKit

set_option maxHeartbeats 4000000 in
set_option maxRecDepth 100000 in
theorem refValid_c (N : Int) (A : Option Addr) (n c : Nat) (l : List Bd) (w : World) (h : BidsAt w A n c l) (hN1 : -9223372036854775808 ≤ N) (hN2 : N ≤ 9223372036854775807) :
    Calls Try.prog 18 #[.int .i64 N, .slice A n c] w fun e w' => e = .returned (.int .i64 (validS N l)) ∧ E w w' := by
  have hm := h.n63
  have hl := h.len
  by_cases h1 : N < 1
  · have HF := Lib.hid (show validS N l = 5 by rw [validS, if_pos (.inl h1)])
    go_enter Try.func18, Try.ntmps18
    go_wp2_with fail
    go_ret
    exact ⟨ret_int HF.out.symm, E.refl _⟩
  by_cases h8 : 8 < N
  · have HF := Lib.hid (show validS N l = 5 by rw [validS, if_pos (.inr h8)])
    go_enter Try.func18, Try.ntmps18
    go_wp2_with fail
    go_ret
    exact ⟨ret_int HF.out.symm, E.refl _⟩
  by_cases h10 : (10 : Int) < (n : Int)
  · have HF := Lib.hid (show validS N l = 4 by rw [validS, if_neg (by omega), if_pos (by omega)])
    go_enter Try.func18, Try.ntmps18
    go_wp2_with fail
    go_ret
    exact ⟨ret_int HF.out.symm, E.refl _⟩
  obtain ⟨fin, hfin⟩ : ∃ fin, validS N l = fin := ⟨_, rfl⟩
  have HFIN := Lib.hid (show validF N l = fin by rw [← hfin, validS, if_neg (by omega), if_neg (by omega)])
  rw [hfin]
  clear hfin
  go_enter Try.func18, Try.ntmps18
  go_wp2_with fail
  go_loopw [5] (fun i wr => ∃ k : Nat, k ≤ n ∧ i = .int .i64 k ∧ E w wr ∧ Hid (validF N (l.drop k) = fin)) (fun i _ => n - (intOf i).toNat)
  case atStart => exact ⟨0, Nat.zero_le _, rfl, E.refl _, HFIN.out⟩
  case round =>
    clear HFIN
    obtain ⟨k, hk, rfl, hE, hv⟩ := hrel
    by_cases hlt : k < n
    · obtain ⟨b, o, x, A', n', c', rfl, hb, hx, hw1, hw2, hc1, hc2, hc3, hN⟩ := (h.e hE).get hlt
      have hD := dropB hx
      have hx1 := wf_i64 hw1
      have hx2 := wf_i64 hw2
      have hn' := hN.n63
      have hnl := hN.len
      have HV := Lib.hid (show (if bidE N x = 0 then validF N (l.drop (k + 1)) else bidE N x) = fin by rw [← hv.out, hD]; rfl)
      clear hv hx hw1 hw2 hD
      obtain ⟨xb, xp, xl⟩ := x
      simp only at *
      by_cases e1 : xb < 1 ∨ 1073741824 < xb
      · have HF := Lib.hid (show fin = 1 by rw [← HV.out, bidE, if_pos e1]; rfl)
        rcases e1 with e1 | e1
        · go_wp2_with fail
          go_ret
          exact ⟨ret_int HF.out.symm, hE.alloc _⟩
        · have e1' : ¬ xb < 1 := by omega
          go_wp2_with fail
          go_ret
          exact ⟨ret_int HF.out.symm, hE.alloc _⟩
      by_cases e2 : xp < 1 ∨ 1099511627776 < xp
      · have HF := Lib.hid (show fin = 5 by rw [← HV.out, bidE, if_neg e1, if_pos e2]; rfl)
        have e11 : ¬ xb < 1 := by omega
        have e12 : ¬ 1073741824 < xb := by omega
        clear e1
        rcases e2 with e2 | e2
        · go_wp2_with fail
          go_ret
          exact ⟨ret_int HF.out.symm, hE.alloc _⟩
        · have e2' : ¬ xp < 1 := by omega
          go_wp2_with fail
          go_ret
          exact ⟨ret_int HF.out.symm, hE.alloc _⟩
      have e11 : ¬ xb < 1 := by omega
      have e12 : ¬ 1073741824 < xb := by omega
      have e21 : ¬ xp < 1 := by omega
      have e22 : ¬ 1099511627776 < xp := by omega
      by_cases e3 : n' = 0
      · have HF := Lib.hid (show fin = 1 by rw [← HV.out, bidE, if_neg e1, if_neg e2, if_pos (List.eq_nil_of_length_eq_zero (by simp only; omega))]; rfl)
        subst e3
        clear e1 e2
        go_wp2_with fail
        go_ret
        exact ⟨ret_int HF.out.symm, hE.alloc _⟩
      have hz : ((n' : Int) == 0) = false := by simp; omega
      have hne : xl ≠ [] := by intro e; rw [e] at hnl; simp at hnl; omega
      have hbe : bidE N (xb, xp, xl) = if lotsOk N (-1) xl = true then 0 else 1 := by unfold bidE; simp only; rw [if_neg e1, if_neg e2, if_neg hne]
      rw [hbe] at HV
      have HV2 := HV
      clear hbe hne
      clear e1 e2 HV
      have hE2 := hE.alloc (.cells #[.int .i64 xb, .int .i64 xp, .slice A' n' c'] 53)
      have hNa := hN.e ((E.refl wr).alloc (.cells #[.int .i64 xb, .int .i64 xp, .slice A' n' c'] 53))
      obtain ⟨wi, hwi⟩ : ∃ wi, wr.alloc (.cells #[.int .i64 xb, .int .i64 xp, .slice A' n' c'] 53) = wi := ⟨_, rfl⟩
      have hc6 := (cells3_new wr (.int .i64 xb) (.int .i64 xp) (.slice A' n' c') 53).2.2
      have hsz : (⟨wr.heap.size, 2, none⟩ : Addr).block < (wr.alloc (.cells #[.int .i64 xb, .int .i64 xp, .slice A' n' c'] 53)).heap.size := by simp
      rw [hwi] at hE2 hNa hc6 hsz
      have HWI := Lib.hid hwi
      clear hwi
      go_wp2_with fail
      rw [HWI.out]
      clear HWI
      go_loopw [7] (fun ti w2 => ∃ (j : Nat) (last : Int), j ≤ n' ∧ ti = .int .i64 j ∧ Q wi w2 ∧ Hid (((j = 0 ∧ last = -1) ∨ (0 < j ∧ xl[j - 1]? = some last ∧ 0 ≤ last)) ∧ lotsOk N last (xl.drop j) = lotsOk N (-1) xl)) (fun ti _ => n' - (intOf ti).toNat)
      case atStart => exact ⟨0, -1, Nat.zero_le _, rfl, Q.refl _, .inl ⟨rfl, rfl⟩, rfl⟩
      case round =>
        obtain ⟨j, last, hj, rfl, hq, hlo⟩ := hrel
        have c6 := ((E.of_q hq).cell hsz).trans hc6
        by_cases hjl : (j : Int) < (n' : Int)
        · obtain ⟨b2, o2, y, rfl, hb2, hy, hwy, hcy⟩ := (hNa.q hq).get (i := j) (by omega)
          have hyr := wf_i64 hwy
          have hD := drop_at hy
          have HL := Lib.hid (show (decide (last < y) && decide (y < N) && lotsOk N y (xl.drop (j + 1))) = lotsOk N (-1) xl by rw [← hlo.out.2, hD]; rfl)
          have hlast : -1 ≤ last := by rcases hlo.out.1 with ⟨_, h⟩ | ⟨_, _, h⟩ <;> omega
          by_cases f0 : y < 0
          · have HF := Lib.hid (show fin = 1 by
              have : lotsOk N (-1) xl = false := by rw [← HL.out]; simp; omega
              rw [← HV2.out, this]; rfl)
            clear hlo hy hwy hD
            go_wp2_with fail
            go_quiet (fail)
            go_wp2_with fail
            go_ret
            exact ⟨ret_int HF.out.symm, (hE2.q hq).drewN _⟩
          by_cases f2 : N ≤ y
          · have HF := Lib.hid (show fin = 1 by
              have : lotsOk N (-1) xl = false := by rw [← HL.out]; simp; omega
              rw [← HV2.out, this]; rfl)
            clear hlo hy hwy hD
            go_wp2_with fail
            have d0 : decide (y < 0) = false := by simp; omega
            go_quiet (fail)
            go_wp2_with fail
            go_ret
            exact ⟨ret_int HF.out.symm, (hE2.q hq).drewN _⟩
          by_cases j0 : (0 : Int) < (j : Int)
          · obtain ⟨b3, o3, y', e3, hb3, hy', hwy', hcy'⟩ := (hNa.q hq).get (i := j - 1) (by omega)
            injection e3 with e3
            injection e3 with e3 e4
            subst e3 e4
            have hyl : y' = last := by
              rcases hlo.out.1 with ⟨h, _⟩ | ⟨_, h, _⟩
              · omega
              · rw [hy'] at h; injection h
            subst hyl
            obtain ⟨jm, hjm⟩ : ∃ jm, j - 1 = jm := ⟨_, rfl⟩
            rw [hjm] at hcy'
            have ejm : (j : Int) - 1 = (jm : Int) := by omega
            have ejn : (jm : Int) < (n' : Int) := by omega
            clear hjm
            by_cases f1 : y ≤ y'
            · have HF := Lib.hid (show fin = 1 by
                have : lotsOk N (-1) xl = false := by rw [← HL.out]; simp; omega
                rw [← HV2.out, this]; rfl)
              clear hlo hy hwy hD hy' hwy'
              go_wp2_with fail
              have d0 : decide (y < 0) = false := by simp; omega
              have d1 : decide (N ≤ y) = false := by simp; omega
              have d3 : decide (0 < j) = true := by simp; omega
              go_quiet (fail)
              go_wp2_with fail
              go_ret
              exact ⟨ret_int HF.out.symm, (hE2.q hq).drewN _⟩
            · have HN := Lib.hid (show ((j + 1 = 0 ∧ y = -1) ∨ (0 < j + 1 ∧ xl[j + 1 - 1]? = some y ∧ 0 ≤ y)) ∧ lotsOk N y (xl.drop (j + 1)) = lotsOk N (-1) xl from ⟨.inr ⟨by omega, hy, by omega⟩, by rw [← HL.out]; simp; omega⟩)
              clear hlo hy hwy hD hy' hwy'
              go_wp2_with fail
              have d0 : decide (y < 0) = false := by simp; omega
              have d1 : decide (N ≤ y) = false := by simp; omega
              have d2 : decide (y ≤ y') = false := by simp; omega
              have d3 : decide (0 < j) = true := by simp; omega
              go_quiet (fail)
              go_wp2_with fail
              exact ⟨⟨j + 1, y, by omega, by go_num, hq.drewN _, HN.out⟩, by simp [intOf]; omega⟩
          · have hj0 : j = 0 := by omega
            have HN := Lib.hid (show ((j + 1 = 0 ∧ y = -1) ∨ (0 < j + 1 ∧ xl[j + 1 - 1]? = some y ∧ 0 ≤ y)) ∧ lotsOk N y (xl.drop (j + 1)) = lotsOk N (-1) xl from ⟨.inr ⟨by omega, hy, by omega⟩, by
              have hll : last < y := by rcases hlo.out.1 with ⟨_, h⟩ | ⟨h, _⟩ <;> omega
              rw [← HL.out]; simp; omega⟩)
            clear hlo hy hwy hD hj0
            go_wp2_with fail
            have d0 : decide (y < 0) = false := by simp; omega
            have d1 : decide (N ≤ y) = false := by simp; omega
            have d3 : decide (0 < j) = false := by simp; omega
            go_quiet (fail)
            go_wp2_with fail
            exact ⟨⟨j + 1, y, by omega, by go_num, hq.drewN _, HN.out⟩, by simp [intOf]; omega⟩
        · have HF := Lib.hid (show validF N (l.drop (k + 1)) = fin by
            have : lotsOk N (-1) xl = true := by rw [← hlo.out.2, drop_end hnl (by omega)]; rfl
            rw [← HV2.out, this]; rfl)
          go_wp2_with fail
          go_roundw
          case rel => exact ⟨k + 1, by omega, by go_num, hE2.q hq, HF.out⟩
          case measure => simp [intOf]; omega
    · have HF := Lib.hid (show fin = 0 by rw [← hv.out, drop_end hl (by omega)]; rfl)
      go_wp2_with fail
      go_ret
      exact ⟨ret_int HF.out.symm, hE⟩

end Go.Proofs.Ytpbkfpkgbfifaaa
