/- The model's search: all choices. -/
import Derived.Test.YtkcbdnaampiedaaKFe
namespace Go.Proofs.Ytkcbdnaampiedaa
open Go.RowKit

def refSt (l : List Bd) (wo : Int) (k : Nat) : List Nat × Int := ((List.range k).map (chF 0 l.length)).foldl (rstep l (okB l wo)) ([], 0)
theorem refSt_succ (l : List Bd) (wo : Int) (k : Nat) : refSt l wo (k + 1) = rstep l (okB l wo) (refSt l wo k) (chF 0 l.length k) := by
  unfold refSt
  rw [List.range_succ, List.map_append, List.foldl_append]
  rfl
theorem refSt_end (l : List Bd) (wo : Int) : refSt l wo (2 ^ l.length) = refBestS l wo := rfl
theorem feasZ_ch {l : List Bd} {n : Nat} (hl : l.length = n) (b : Nat) : feasZ l (ints (chF 0 n b)) = apartB l (chF 0 n b) := by
  have h := chF_range n 0 b
  have h1 : lotsOk l.length (-1) (ints (chF 0 n b)) = true := by
    have key : ∀ (c : List Nat) (last : Int), (∀ j ∈ c, last < (j : Int)) → c.Pairwise (· < ·) → (∀ j ∈ c, j < n) → lotsOk n last (ints c) = true := fun c => by
      induction c with
      | nil => intro _ _ _ _; rfl
      | cons x c ih =>
        intro last h1 h2 h3
        rw [List.pairwise_cons] at h2
        simp only [ints, List.map_cons, lotsOk, Bool.and_eq_true, decide_eq_true_eq]
        exact ⟨⟨h1 x List.mem_cons_self, by have := h3 x List.mem_cons_self; omega⟩, ih x (fun j hj => by have := h2.1 j hj; omega) h2.2 fun j hj => h3 j (List.mem_cons_of_mem _ hj)⟩
    rw [hl]
    exact key _ _ (fun j _ => by omega) h.1 fun j hj => by have := h.2 j hj; omega
  have h2 : toN (ints (chF 0 n b)) = chF 0 n b := by
    rw [toN, ints, List.map_map]
    conv => rhs; rw [← List.map_id (chF 0 n b)]
    apply List.map_congr_left
    intro x _
    simp
  rw [feasZ, h1, h2, Bool.true_and]
theorem chF_len {c : List Nat} {n : Nat} (h : c.Pairwise (· < ·) ∧ ∀ j ∈ c, 0 ≤ j ∧ j < 0 + n) : c.length ≤ n := by
  have key : ∀ (c : List Nat) (m k : Nat), c.Pairwise (· < ·) → (∀ j ∈ c, m ≤ j ∧ j < m + k) → c.length ≤ k := fun c => by
    induction c with
    | nil => intro _ _ _ _; exact Nat.zero_le _
    | cons x c ih =>
      intro m k h1 h2
      rw [List.pairwise_cons] at h1
      have hx := h2 x List.mem_cons_self
      have := ih (x + 1) (m + k - (x + 1)) h1.2 (fun j hj => by have := h1.1 j hj; have := h2 j (List.mem_cons_of_mem _ hj); omega)
      simp only [List.length_cons]
      omega
  exact key c 0 n h.1 h.2
theorem val_small {l : List Bd} {n : Nat} (hp : ∀ i, 0 ≤ pr l i ∧ pr l i ≤ 1099511627776) (hn : n ≤ 10) (b : Nat) : 0 ≤ val l (chF 0 n b) ∧ val l (chF 0 n b) ≤ 10995116277760 := by
  have h := val_le hp (chF 0 n b)
  have h2 := chF_len (chF_range n 0 b)
  omega

set_option maxHeartbeats 4000000 in
set_option maxRecDepth 100000 in
theorem refBest28_c (A : Option Addr) (n c : Nat) (l : List Bd) (wo : Int) (w : World) (h : BidsAt w A n c l) (hn : n ≤ 10) (hp : ∀ i, 0 ≤ pr l i ∧ pr l i ≤ 1099511627776) :
    Calls Try.prog 39 #[.slice A n c, .int .i64 wo] w fun e w' => ∃ A' n' c', e = .returned (.tuple #[.slice A' n' c', .int .i64 (refBestS l wo).2]) ∧ Nums .i64 w' A' n' c' (ints (refBestS l wo).1) ∧ E w w' := by
  have hl := h.len
  have HP := Lib.hid hp
  have HEND := Lib.hid (refSt_end l wo)
  rw [hl] at HEND
  clear hp
  generalize refBestS l wo = res at *
  go_enter Try.func39, Try.ntmps39
  go_wp2_with fail
  go_loopw [8, 9] (fun tt ti wr => ∃ i T : Nat, i ≤ n ∧ ti = .int .i64 i ∧ tt = .int .i64 T ∧ w = wr ∧ Hid (T = 2 ^ i) ∧ T ≤ 1024) (fun _ ti _ => n - (intOf ti).toNat)
  case atStart => exact ⟨0, 1, Nat.zero_le _, rfl, rfl, rfl, rfl, by omega⟩
  case round =>
    obtain ⟨i, T, hi, rfl, rfl, rfl, hT, hT2⟩ := hrel
    by_cases hil : (i : Int) < (n : Int)
    · have HT := Lib.hid (show T * 2 = 2 ^ (i + 1) by rw [hT.out, Nat.pow_succ])
      have hT3 : T * 2 ≤ 1024 := by
        have h1 := HT.out
        have h2 : 2 ^ (i + 1) ≤ 2 ^ 10 := Nat.pow_le_pow_right (by omega) (by omega)
        omega
      clear hT
      go_wp2_with fail
      go_roundw
      case rel => exact ⟨i + 1, T * 2, by omega, by go_num, by go_num, by first | rfl | trivial, HT.out, hT3⟩
      case measure => simp [intOf]; omega
    · have hin : i = n := by omega
      have HT := Lib.hid (show refSt l wo T = res by rw [hT.out, hin]; exact HEND.out)
      clear hT HEND hin
      go_wp2_with fail
      go_loopw [6, 7, 10] (fun tw tv tb wr => ∃ (k : Nat) (A' : Option Addr) (n' c' : Nat) (st : List Nat × Int), k ≤ T ∧ tb = .int .i64 k ∧ tw = .slice A' n' c' ∧ tv = .int .i64 st.2 ∧ Nums .i64 wr A' n' c' (ints st.1) ∧ E w wr ∧ Hid (refSt l wo k = st)) (fun _ _ tb _ => T - (intOf tb).toNat)
      case atStart => exact ⟨0, none, 0, 0, ([], 0), Nat.zero_le _, rfl, rfl, rfl, Nums.nil _ _ _ _ (Nat.zero_le _), E.refl _, rfl⟩
      case round =>
        obtain ⟨k, A', n', c', ⟨sc, sv⟩, hk, rfl, rfl, rfl, hW, hE, hst⟩ := hrel
        simp only at hW hst ⊢
        by_cases hkT : (k : Int) < (T : Int)
        · have HCH := Lib.hid (fun W => choice_c k n W (by omega) (by omega))
          have HRG := Lib.hid (chF_range n 0 k)
          have HVS := Lib.hid (val_small (l := l) HP.out hn k)
          have hfz := feasZ_ch hl k
          have HS := Lib.hid (show refSt l wo (k + 1) = rstep l (okB l wo) (sc, sv) (chF 0 n k) by rw [refSt_succ, hst.out, hl])
          generalize chF 0 n k = ch at *
          clear hst
          go_wp2_with fail
          refine (HCH.out _).mono ?_
          rintro e w1 ⟨A1, n1, c1, rfl, hO1, hE1⟩
          have hN1 := hO1.reads
          have hn1 := hN1.n63
          have HNL := Lib.hid (show n1 = ch.length by rw [← ints_len]; exact hN1.len.symm)
          have hEw1 := hE.trans hE1
          have HF := Lib.hid (refFeasible_c A n c l A1 n1 c1 (ints ch) w1 (h.e hEw1) hN1)
          rw [hfz] at HF
          obtain ⟨ap, hap⟩ : ∃ ap, apartB l ch = ap := ⟨_, rfl⟩
          rw [hap] at HF
          have HAP := Lib.hid hap
          have hW1 := hW.e hE1
          clear hfz hO1 HCH hW hap
          go_wp2_with fail
          refine HF.out.mono ?_
          rintro e w2 ⟨rfl, hE2⟩
          have hEw2 := hEw1.trans hE2
          have hN2 := hN1.e hE2
          have hW2 := hW1.e hE2
          clear HF hN1 hW1 hEw1 hE1 hE hE2
          go_wp2_with fail
          go_loopw [12, 13] (fun tf ti wr => ∃ (i : Nat) (fb : Bool), i ≤ n1 ∧ ti = .int .i64 i ∧ tf = .bool fb ∧ Q w2 wr ∧ Hid (fb = (ap && (ch.take i).all fun j => (l.getD j bd0).1 != wo))) (fun _ ti _ => n1 - (intOf ti).toNat)
          case atStart => exact ⟨0, _, Nat.zero_le _, rfl, rfl, Q.refl _, show ap = (ap && (ch.take 0).all fun j => (l.getD j bd0).1 != wo) by simp⟩
          case round =>
            obtain ⟨i, fb, hi2, rfl, rfl, hq, hfb⟩ := hrel
            by_cases hin1 : (i : Int) < (n1 : Int)
            · obtain ⟨b2, o2, y, rfl, hb2, hy, hwy, hcy⟩ := (hN2.q hq).get (i := i) (by omega)
              obtain ⟨ci, hci, rfl⟩ : ∃ ci : Nat, ch[i]? = some ci ∧ (ci : Int) = y := by
                rw [ints, List.getElem?_map] at hy
                cases e : ch[i]? with
                | none => rw [e] at hy; simp at hy
                | some z => rw [e] at hy; exact ⟨z, rfl, by simpa using hy⟩
              have hcn := HRG.out.2 ci (List.mem_of_getElem? hci)
              obtain ⟨b, o, x, Ax, nx, cx, rfl, hb, hx, hv1, hv2, hN, hcs⟩ := h.item (i := ci) (by omega)
              obtain ⟨hc1, _, _⟩ := hcs _ (hEw2.q hq)
              have hcI : (ci : Int) < (n : Int) := by omega
              have hgx : l.getD ci bd0 = x := by rw [List.getD_eq_getElem?_getD, hx]; rfl
              have HN := Lib.hid (show (fb && x.1 != wo) = (ap && (ch.take (i + 1)).all fun j => (l.getD j bd0).1 != wo) by
                rw [List.take_add_one, hci, List.all_append, hfb.out, Bool.and_assoc]
                show _ = (ap && ((ch.take i).all _ && ([ci].all fun j => (l.getD j bd0).1 != wo)))
                simp only [List.all_cons, List.all_nil, Bool.and_true, hgx])
              clear hfb hy hci hwy hcs hx hN hgx hcn
              cases fb
              · go_wp2_with fail
                exact ⟨⟨i + 1, _, by omega, by go_num, rfl, hq, HN.out⟩, by simp [intOf]; omega⟩
              · obtain ⟨xb, xp, xl⟩ := x
                simp only at *
                cases hb0 : (xb != wo)
                · rw [hb0] at HN
                  go_wp2_with fail
                  exact ⟨⟨i + 1, _, by omega, by go_num, rfl, hq, HN.out⟩, by simp [intOf]; omega⟩
                · rw [hb0] at HN
                  go_wp2_with fail
                  exact ⟨⟨i + 1, _, by omega, by go_num, rfl, hq, HN.out⟩, by simp [intOf]; omega⟩
            · have HOK := Lib.hid (show okB l wo ch = fb by rw [hfb.out, List.take_of_length_le (by have := HNL.out; omega), okB, HAP.out])
              have HVAL := Lib.hid (refValue_c A n c l A1 n1 c1 ch wr (h.e (hEw2.q hq)) (hN2.q hq) (fun j hj => by have := HRG.out.2 j hj; omega) (by have := HNL.out; have := chF_len HRG.out; omega) HP.out)
              have hvs := HVS.out
              have HST := Lib.hid (show refSt l wo (k + 1) = if fb && (decide (sv < val l ch) || (val l ch == sv && lessN ch sc)) then (ch, val l ch) else (sc, sv) by rw [HS.out, rstep, HOK.out])
              have hEq := hEw2.q hq
              have hN3 := hN2.q hq
              have hW3 := hW2.q hq
              generalize val l ch = v at *
              clear hfb HS HOK HVS hN2 hW2 hq hEw2
              go_wp2_with fail
              refine HVAL.out.mono ?_
              rintro e w4 ⟨rfl, hE4⟩
              have hE5 := hEq.trans hE4
              have hN5 := hN3.e hE4
              have hW5 := hW3.e hE4
              clear HVAL hN3 hW3 hEq
              cases fb
              · have HN := Lib.hid (show refSt l wo (k + 1) = (sc, sv) by rw [HST.out]; rfl)
                clear HST
                go_wp2_with fail
                exact ⟨⟨k + 1, A', n', c', (sc, sv), by omega, by go_num, rfl, rfl, hW5, hE5, HN.out⟩, by simp [intOf]; omega⟩
              · by_cases hv : sv < v
                · have HN := Lib.hid (show refSt l wo (k + 1) = (ch, v) by rw [HST.out, decide_eq_true hv]; rfl)
                  clear HST
                  go_wp2_with fail
                  exact ⟨⟨k + 1, A1, n1, c1, (ch, v), by omega, by go_num, rfl, rfl, hN5, hE5, HN.out⟩, by simp [intOf]; omega⟩
                · by_cases hve : v = sv
                  · have hve' : (v == sv) = true := by simp [hve]
                    have HLE := Lib.hid (fun W hW => refLess_c ch sc A1 A' n1 c1 n' c' W (hN5.e hW) (hW5.e hW))
                    have HST2 := Lib.hid (show refSt l wo (k + 1) = if lessN ch sc then (ch, v) else (sc, sv) by rw [HST.out, decide_eq_false hv, hve']; simp)
                    generalize lessN ch sc = ls at HLE HST2
                    clear HST
                    subst hve
                    cases ls
                    · have HN := Lib.hid (show refSt l wo (k + 1) = (sc, v) by rw [HST2.out]; rfl)
                      go_wp2_with fail
                      refine (HLE.out _ (E.refl _)).mono ?_
                      rintro e w6 ⟨rfl, hE6⟩
                      have hW7 := hW5.e hE6
                      have hE7 := hE5.trans hE6
                      go_wp2_with fail
                      exact ⟨⟨k + 1, A', n', c', (sc, v), by omega, by go_num, rfl, rfl, hW7, hE7, HN.out⟩, by simp [intOf]; omega⟩
                    · have HN := Lib.hid (show refSt l wo (k + 1) = (ch, v) by rw [HST2.out]; rfl)
                      go_wp2_with fail
                      refine (HLE.out _ (E.refl _)).mono ?_
                      rintro e w6 ⟨rfl, hE6⟩
                      have hN7 := hN5.e hE6
                      have hE7 := hE5.trans hE6
                      go_wp2_with fail
                      exact ⟨⟨k + 1, A1, n1, c1, (ch, v), by omega, by go_num, rfl, rfl, hN7, hE7, HN.out⟩, by simp [intOf]; omega⟩
                  · have hve' : (v == sv) = false := by simp [hve]
                    have HN := Lib.hid (show refSt l wo (k + 1) = (sc, sv) by rw [HST.out, decide_eq_false hv, hve']; rfl)
                    clear HST hve
                    go_wp2_with fail
                    exact ⟨⟨k + 1, A', n', c', (sc, sv), by omega, by go_num, rfl, rfl, hW5, hE5, HN.out⟩, by simp [intOf]; omega⟩
        · have hkT' : k = T := by omega
          have HF := Lib.hid (show (sc, sv) = res by rw [← hst.out, hkT']; exact HT.out)
          clear hkT' hst
          go_wp2_with fail
          go_ret2
          exact ⟨A', n', c', by rw [← HF.out]; rfl, by rw [← HF.out]; exact hW, hE⟩
end Go.Proofs.Ytkcbdnaampiedaa
