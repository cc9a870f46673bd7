/- bids.Valid and clear.Best. -/
import Derived.Test.YtpbkfpkgbfifaaaKI
import Derived.Test.YtpbkfpkgbfifaaaKJ
namespace Go.Proofs.Ytpbkfpkgbfifaaa
open Go.RowKit

def lotsOk (n : Int) : Int → List Int → Bool
  | _, [] => true
  | last, x :: r => decide (last < x) && decide (x < n) && lotsOk n x r
def bidE (n : Int) (x : Bd) : Int := if x.1 < 1 ∨ 1073741824 < x.1 then 1 else if x.2.1 < 1 ∨ 1099511627776 < x.2.1 then 5 else if x.2.2 = [] then 1 else if lotsOk n (-1) x.2.2 then 0 else 1
def validF (n : Int) : List Bd → Int
  | [] => 0
  | x :: r => if bidE n x = 0 then validF n r else bidE n x
def validS (n : Int) (l : List Bd) : Int := if n < 1 ∨ 8 < n then 5 else if 10 < l.length then 4 else validF n l
theorem dropB {l : List Bd} {k : Nat} {x : Bd} (h : l[k]? = some x) : l.drop k = x :: l.drop (k + 1) := drop_at h
theorem validF_ok {n : Int} {l : List Bd} (h : validF n l = 0) : ∀ x ∈ l, bidE n x = 0 := by
  induction l with
  | nil => simp
  | cons y l ih =>
    unfold validF at h
    split at h
    · rename_i e
      intro x hx
      rcases List.mem_cons.1 hx with h' | h'
      · rw [h']; exact e
      · exact ih h x h'
    · rename_i e; exact absurd h e
theorem bidE_ok {n : Int} {x : Bd} (h : bidE n x = 0) : 1 ≤ x.1 ∧ 1 ≤ x.2.1 ∧ x.2.1 ≤ 1099511627776 ∧ lotsOk n (-1) x.2.2 = true := by
  unfold bidE at h
  split at h
  · omega
  · split at h
    · omega
    · split at h
      · omega
      · split at h
        · rename_i h1 h2 h3 h4; exact ⟨by omega, by omega, by omega, h4⟩
        · omega
theorem validS_ok {n : Int} {l : List Bd} (h : validS n l = 0) : l.length ≤ 10 ∧ (∀ x ∈ l, 1 ≤ x.1 ∧ 1 ≤ x.2.1 ∧ x.2.1 ≤ 1099511627776) ∧ 1 ≤ n ∧ n ≤ 8 := by
  unfold validS at h
  split at h
  · omega
  · split at h
    · omega
    · exact ⟨by omega, fun x hx => by have := bidE_ok (validF_ok h x hx); exact ⟨this.1, this.2.1, this.2.2.1⟩, by omega, by omega⟩

set_option maxHeartbeats 4000000 in
set_option maxRecDepth 100000 in
theorem valid_c (N : Int) (A : Option Addr) (n c : Nat) (l : List Bd) (w : World) (h : BidsAt w A n c l) (hN1 : -9223372036854775808 ≤ N) (hN2 : N ≤ 9223372036854775807) :
    Calls Try.prog 16 #[.int .i64 N, .slice A n c] w fun e w' => e = .returned (.int .i64 (validS N l)) ∧ E w w' := by
  have hm := h.n63
  have hl := h.len
  by_cases h1 : N < 1
  · have HF := Lib.hid (show validS N l = 5 by rw [validS, if_pos (.inl h1)])
    go_enter Try.func16, Try.ntmps16
    go_wp2_with fail
    go_ret
    exact ⟨ret_int HF.out.symm, E.refl _⟩
  by_cases h8 : 8 < N
  · have HF := Lib.hid (show validS N l = 5 by rw [validS, if_pos (.inr h8)])
    go_enter Try.func16, Try.ntmps16
    go_wp2_with fail
    go_ret
    exact ⟨ret_int HF.out.symm, E.refl _⟩
  by_cases h10 : (10 : Int) < (n : Int)
  · have HF := Lib.hid (show validS N l = 4 by rw [validS, if_neg (by omega), if_pos (by omega)])
    go_enter Try.func16, Try.ntmps16
    go_wp2_with fail
    go_ret
    exact ⟨ret_int HF.out.symm, E.refl _⟩
  obtain ⟨fin, hfin⟩ : ∃ fin, validS N l = fin := ⟨_, rfl⟩
  have HFIN := Lib.hid (show validF N l = fin by rw [← hfin, validS, if_neg (by omega), if_neg (by omega)])
  rw [hfin]
  clear hfin
  go_enter Try.func16, Try.ntmps16
  go_wp2_with fail
  go_loopw [21] (fun i wr => ∃ k : Nat, k ≤ n ∧ i = .int .i64 k ∧ E w wr ∧ Hid (validF N (l.drop k) = fin)) (fun i _ => n - (intOf i).toNat)
  case atStart => exact ⟨0, Nat.zero_le _, rfl, E.refl _, HFIN.out⟩
  case round =>
    clear HFIN
    obtain ⟨k, hk, rfl, hE, hv⟩ := hrel
    by_cases hlt : k < n
    · obtain ⟨b, o, x, A', n', c', rfl, hb, hx, hw1, hw2, hc1, hc2, hc3, hN⟩ := (h.e hE).get hlt
      have hD := dropB hx
      have hx1 := wf_i64 hw1
      have hx2 := wf_i64 hw2
      have hn' := hN.n63
      have hnl := hN.len
      have HV := Lib.hid (show (if bidE N x = 0 then validF N (l.drop (k + 1)) else bidE N x) = fin by rw [← hv.out, hD]; rfl)
      clear hv hx hw1 hw2 hD
      obtain ⟨xb, xp, xl⟩ := x
      simp only at *
      by_cases e1 : xb < 1 ∨ 1073741824 < xb
      · have HF := Lib.hid (show fin = 1 by rw [← HV.out, bidE, if_pos e1]; rfl)
        rcases e1 with e1 | e1
        · go_wp2_with fail
          go_ret
          exact ⟨ret_int HF.out.symm, hE.alloc _⟩
        · have e1' : ¬ xb < 1 := by omega
          go_wp2_with fail
          go_ret
          exact ⟨ret_int HF.out.symm, hE.alloc _⟩
      by_cases e2 : xp < 1 ∨ 1099511627776 < xp
      · have HF := Lib.hid (show fin = 5 by rw [← HV.out, bidE, if_neg e1, if_pos e2]; rfl)
        have e11 : ¬ xb < 1 := by omega
        have e12 : ¬ 1073741824 < xb := by omega
        clear e1
        rcases e2 with e2 | e2
        · go_wp2_with fail
          go_ret
          exact ⟨ret_int HF.out.symm, hE.alloc _⟩
        · have e2' : ¬ xp < 1 := by omega
          go_wp2_with fail
          go_ret
          exact ⟨ret_int HF.out.symm, hE.alloc _⟩
      have e11 : ¬ xb < 1 := by omega
      have e12 : ¬ 1073741824 < xb := by omega
      have e21 : ¬ xp < 1 := by omega
      have e22 : ¬ 1099511627776 < xp := by omega
      by_cases e3 : n' = 0
      · have HF := Lib.hid (show fin = 1 by rw [← HV.out, bidE, if_neg e1, if_neg e2, if_pos (List.eq_nil_of_length_eq_zero (by simp only; omega))]; rfl)
        subst e3
        clear e1 e2
        go_wp2_with fail
        go_ret
        exact ⟨ret_int HF.out.symm, hE.alloc _⟩
      have hz : ((n' : Int) == 0) = false := by simp; omega
      have hne : xl ≠ [] := by intro e; rw [e] at hnl; simp at hnl; omega
      have hbe : bidE N (xb, xp, xl) = if lotsOk N (-1) xl = true then 0 else 1 := by unfold bidE; simp only; rw [if_neg e1, if_neg e2, if_neg hne]
      rw [hbe] at HV
      have HV2 := HV
      clear hbe hne
      clear e1 e2 HV
      have hE2 := hE.alloc (.cells #[.int .i64 xb, .int .i64 xp, .slice A' n' c'] 50)
      have hNa := hN.e ((E.refl wr).alloc (.cells #[.int .i64 xb, .int .i64 xp, .slice A' n' c'] 50))
      obtain ⟨wi, hwi⟩ : ∃ wi, wr.alloc (.cells #[.int .i64 xb, .int .i64 xp, .slice A' n' c'] 50) = wi := ⟨_, rfl⟩
      rw [hwi] at hE2 hNa
      have HWI := Lib.hid hwi
      clear hwi
      go_wp2_with fail
      rw [HWI.out]
      clear HWI
      go_loopw [7, 51] (fun lt ti w2 => ∃ (j : Nat) (last : Int), j ≤ n' ∧ ti = .int .i64 j ∧ lt = .int .i64 last ∧ w2 = wi ∧ Hid (lotsOk N last (xl.drop j) = lotsOk N (-1) xl)) (fun _ ti _ => n' - (intOf ti).toNat)
      case atStart => exact ⟨0, -1, Nat.zero_le _, rfl, rfl, rfl, rfl⟩
      case round =>
        obtain ⟨j, last, hj, rfl, rfl, rfl, hlo⟩ := hrel
        by_cases hjl : j < n'
        · obtain ⟨b2, o2, y, rfl, hb2, hy, hwy, hcy⟩ := hNa.get hjl
          have hyr := wf_i64 hwy
          have hD := drop_at hy
          have HL := Lib.hid (show (decide (last < y) && decide (y < N) && lotsOk N y (xl.drop (j + 1))) = lotsOk N (-1) xl by rw [← hlo.out, hD]; rfl)
          clear hy hwy hD hlo
          by_cases f1 : y ≤ last
          · have HF := Lib.hid (show fin = 1 by
              have : lotsOk N (-1) xl = false := by rw [← HL.out]; simp; omega
              rw [← HV2.out, this]; rfl)
            go_wp2_with fail
            go_ret
            exact ⟨ret_int HF.out.symm, hE2⟩
          by_cases f2 : N ≤ y
          · have HF := Lib.hid (show fin = 1 by
              have : lotsOk N (-1) xl = false := by rw [← HL.out]; simp; omega
              rw [← HV2.out, this]; rfl)
            go_wp2_with fail
            go_ret
            exact ⟨ret_int HF.out.symm, hE2⟩
          · go_wp2_with fail
            go_roundw
            case rel => exact ⟨j + 1, y, by omega, by go_num, rfl, by first | trivial | rfl, show _ = _ by rw [← HL.out]; simp; omega⟩
            case measure => simp [intOf]; omega
        · have HF := Lib.hid (show validF N (l.drop (k + 1)) = fin by
            have : lotsOk N (-1) xl = true := by rw [← hlo.out, drop_end hnl (by omega)]; rfl
            rw [← HV2.out, this]; rfl)
          go_wp2_with fail
          go_roundw
          case rel => exact ⟨k + 1, by omega, by go_num, hE2, HF.out⟩
          case measure => simp [intOf]; omega
    · have HF := Lib.hid (show fin = 0 by rw [← hv.out, drop_end hl (by omega)]; rfl)
      go_wp2_with fail
      go_ret
      exact ⟨ret_int HF.out.symm, hE⟩

/-- valid bids: what the search asks -/
theorem pr_of_valid {N : Int} {l : List Bd} (h : validS N l = 0) (i : Nat) : 0 ≤ pr l i ∧ pr l i ≤ 1099511627776 := by
  unfold pr
  rw [List.getD_eq_getElem?_getD]
  cases e : l[i]? with
  | none => simp [bd0]
  | some x => have := (validS_ok h).2.1 x (List.mem_of_getElem? e); simp only [Option.getD_some]; omega
def bestF (N : Int) (l : List Bd) : List Nat × Int × Int := if validS N l = 0 then ((bestS l).1, (bestS l).2, 0) else ([], 0, validS N l)

set_option maxHeartbeats 1000000 in
theorem cBest_c (N : Int) (A : Option Addr) (n c : Nat) (l : List Bd) (w : World) (h : BidsAt w A n c l) (hN1 : -9223372036854775808 ≤ N) (hN2 : N ≤ 9223372036854775807) :
    Calls Try.prog 48 #[.int .i64 N, .slice A n c] w fun e w' => ∃ A' n' c', e = .returned (.tuple #[.slice A' n' c', .int .i64 (bestF N l).2.1, .int .i64 (bestF N l).2.2]) ∧ Own .i64 3 w' w.heap.size A' n' c' (ints (bestF N l).1) ∧ E w w' := by
  have HV := Lib.hid (valid_c N A n c l w h hN1 hN2)
  by_cases hv : validS N l = 0
  · have HB := Lib.hid (fun w1 (hE : E w w1) => best_c A n c l w1 (h.e hE) (by have := (validS_ok hv).1; have := h.len; omega) (pr_of_valid hv))
    rw [bestF, if_pos hv]
    rw [hv] at HV
    clear hv h
    generalize bestS l = bs at *
    go_enter Try.func48, Try.ntmps48
    go_wp2_with fail
    refine HV.out.mono ?_
    rintro e w1 ⟨rfl, hE1⟩
    go_wp2_with fail
    refine (HB.out _ hE1).mono ?_
    rintro e w2 ⟨A', n', c', rfl, hO2, hE2⟩
    go_wp2_with fail
    refine bodyPost_ret (results_tmp3 rfl _ _ _) rfl ?_
    exact ⟨A', n', c', rfl, hO2.rebase hE1.le, hE1.trans hE2⟩
  · rw [bestF, if_neg hv]
    have hne : (validS N l != 0) = true := by simpa using hv
    generalize validS N l = v at *
    clear h
    go_enter Try.func48, Try.ntmps48
    go_wp2_with fail
    refine HV.out.mono ?_
    rintro e w1 ⟨rfl, hE1⟩
    go_wp2_with fail
    refine bodyPost_ret (results_tmp3 rfl _ _ _) rfl ?_
    exact ⟨none, 0, 0, rfl, Own.nil _ _ _ _, hE1⟩
end Go.Proofs.Ytpbkfpkgbfifaaa
