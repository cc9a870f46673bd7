/- Lemmas of the claim, joined: GM. No condition. -/
import Derived.Test.YtmeplpiamkaniaaJE
/- The generator of graphs: some graph. -/
namespace Go.Proofs.Ytmeplpiamkaniaa
set_option linter.unusedVariables false
set_option linter.unusedSimpArgs false
open Go.RowKit

set_option linter.unusedSimpArgs false in
set_option maxHeartbeats 8000000 in
set_option maxRecDepth 100000 in
theorem refFlows_c (A0 : Option Addr) (n0 c0 : Nat) (l : List Int) (w : World) (h : Nums .i64 w A0 n0 c0 l) :
    Calls Try.prog 9 #[.slice A0 n0 c0] w (RetFlows w) := by
  have HPK := Lib.hid (fun (i : Nat) (m : Int) (W : World) (hE : E w W) (hi : i ≤ 1000000) (h0 : 0 < m) (h1 : m ≤ 9223372036854775807) => pick13_c A0 n0 c0 l i m W (h.e hE) hi h0 h1)
  obtain ⟨cnt, hcnt⟩ : ∃ cnt, pk l 0 10 = cnt := ⟨_, rfl⟩
  have hcr := pk_range l 0 (m := 10) (by omega)
  rw [hcnt] at hcr
  obtain ⟨cr0, cr1⟩ := hcr
  have HCN := Lib.hid (fun W (hE : E w W) => show Calls Try.prog 37 #[.slice A0 n0 c0, .int .i64 0, .int .i64 10] W fun e w' => e = .returned (.int .i64 cnt) ∧ E W w' by
    have := HPK.out 0 10 W hE (by omega) (by omega) (by omega)
    rw [hcnt] at this
    exact this)
  obtain ⟨w1, hw1⟩ : ∃ w1, w.alloc (.cells #[.int .i64 4, .int .i64 4294967297, .int .i64 1, .int .i64 9, .int .i64 4294967296, .int .i64 0, .int .i64 7, .int .i64 4294967300, .int .i64 3] 3) = w1 := ⟨_, rfl⟩
  have hE1 : E w w1 := by rw [← hw1]; exact (E.refl w).alloc _
  have hic := ids_cells w
  rw [hw1] at hic
  have HZ1 := Lib.hid (show w.heap.size < w1.heap.size by rw [← hw1]; simp)
  have HIC := Lib.hid hic
  have HE1 := Lib.hid hE1
  clear hcnt hic hE1 h
  go_enter Try.func9, Try.ntmps9
  go_upto_region 2 with fail
  try rw [hw1]
  clear hw1
  go_wp2_with fail
  go_loopw [4, 5] (fun t4 t5 wr => ∃ (i c : Nat) (A : Option Addr) (q : List FlSl), (i : Int) ≤ cnt ∧ t5 = .int .i64 i ∧ t4 = .slice A i c ∧ FRow wr w1.heap.size A i c q ∧ E w1 wr ∧ Hid (GenG (q.map Prod.fst) i)) (fun _ t5 _ => 10 - (intOf t5).toNat)
  case atStart => exact ⟨0, 0, none, [], by omega, rfl, rfl, FRow.nil _ _, E.refl _, GenG.nil⟩
  case round =>
    obtain ⟨i, c, A, q, hic, rfl, rfl, hF, hE, hG⟩ := hrel
    go_wp2_with fail
    refine (HCN.out _ (HE1.out.trans hE)).mono ?_
    rintro e wa ⟨rfl, hEa⟩
    have hFa := hF.e hEa
    have hEw := hE.trans hEa
    clear hF hE hEa
    by_cases hlt : (i : Int) < cnt
    · have hi8 : (i : Int) ≤ 8 := by omega
      have hi0 : (0 : Int) ≤ (i : Int) := by omega
      obtain ⟨aN, haN⟩ : ∃ a : Nat, 1 + 5 * i = a := ⟨_, rfl⟩
      have haI : (1 : Int) + 5 * (i : Int) = (aN : Int) := by omega
      have HAI := Lib.hid haI
      have ha1 : (1 : Int) ≤ (aN : Int) := by omega
      have ha2 : (aN : Int) ≤ 41 := by omega
      clear haN haI
      have HQ := Lib.hid (fun (j : Nat) (m : Int) (W : World) (hE : E wa W) (hi : j ≤ 1000000) (h0 : 0 < m) (h1 : m ≤ 9223372036854775807) => HPK.out j m W ((HE1.out.trans hEw).trans hE) hi h0 h1)
      have HQ1 := Lib.hid (fun W hE => HQ.out aN 5 W hE (by omega) (by omega) (by omega))
      have HQ2 := Lib.hid (fun W hE => HQ.out aN 7 W hE (by omega) (by omega) (by omega))
      have HQ3 := Lib.hid (fun W hE => HQ.out aN 3 W hE (by omega) (by omega) (by omega))
      have HQ4 := Lib.hid (fun W hE => HQ.out aN 4 W hE (by omega) (by omega) (by omega))
      have HQ5 := Lib.hid (fun W hE => HQ.out (aN + 1) 2 W hE (by omega) (by omega) (by omega))
      have HQ6 := Lib.hid (fun W hE => HQ.out (aN + 2) 9 W hE (by omega) (by omega) (by omega))
      rw [show ((aN + 1 : Nat) : Int) = (aN : Int) + 1 by omega] at HQ5
      rw [show ((aN + 2 : Nat) : Int) = (aN : Int) + 2 by omega] at HQ6
      have r1 := pk_range l aN (m := 5) (by omega)
      have r2 := pk_range l aN (m := 7) (by omega)
      have r3 := pk_range l aN (m := 3) (by omega)
      have r4 := pk_range l aN (m := 4) (by omega)
      have r5 := pk_range l (aN + 1) (m := 2) (by omega)
      have r6 := pk_range l (aN + 2) (m := 9) (by omega)
      generalize pk l aN 5 = v1 at *
      generalize pk l aN 7 = v2 at *
      generalize pk l aN 3 = v3 at *
      generalize pk l aN 4 = v4 at *
      generalize pk l (aN + 1) 2 = v5 at *
      generalize pk l (aN + 2) 9 = v6 at *
      obtain ⟨idv, hid⟩ : ∃ x, idsG[i]? = some x := ⟨_, List.getElem?_eq_getElem (show i < idsG.length from (by have : idsG.length = 9 := rfl; omega))⟩
      have hcid := (hEw.cell (p := ⟨w.heap.size, i, none⟩) HZ1.out).trans (HIC.out i idv hid)
      have HID := Lib.hid hid
      have HEW := Lib.hid hEw
      have hzw := Nat.lt_of_lt_of_le HZ1.out hEw.le
      have hi9I : (i : Int) < 9 := by omega
      have hwa : IntKind.i64.wrap ((aN : Int) + 1) = (aN : Int) + 1 := by rw [IntKind.wrap_i64]; omega
      have hwb : IntKind.i64.wrap ((aN : Int) + 2) = (aN : Int) + 2 := by rw [IntKind.wrap_i64]; omega
      have hwc : IntKind.i64.wrap (1 + v4) = 1 + v4 := by rw [IntKind.wrap_i64]; omega
      have hwd : IntKind.i64.wrap (1 + v6) = 1 + v6 := by rw [IntKind.wrap_i64]; omega
      clear hid hEw
      go_upto_region 7 with fail
      rw [HAI.out]
      obtain ⟨f0, hf0⟩ : ∃ f0 : Fl, f0 = ⟨idv, i, v1, i, v2, v3, 1 + v4, v5, 1 + v6, [], []⟩ := ⟨_, rfl⟩
      go_cut [7] (fun t7 wx => ∃ B : Nat, t7 = .pointer (some ⟨B, 0, none⟩) ∧ wa.heap.size ≤ B ∧ FlBox wx B f0 zS zS ∧ E wa wx)
      case first =>
        have hEa := (E.refl wa).drew
        refine wp_region_held_drew (S := (fun w' => wa.heap.size ≤ w'.heap.size ∧ ∀ b o, b < wa.heap.size → w'.cell? ⟨b, o, none⟩ = wa.cell? ⟨b, o, none⟩)) (by kernel_rfl) (keepE hEa) (fun hHeld => ?_)
        (((refine wpAnyH_take (i := 0) (v := ?_) rfl (by kernel_rfl) (by kernel_rfl) (by kernel_rfl) (fun _ _ _ h => h) (Or.inl ⟨by kernel_rfl, ?_⟩) (by assumption) ?_); rotate_left 1; (focus (intro w hSw; (try dsimp only at hSw); go_simp; (try with_reducible rfl))); (try simp only [Act.put, List.setIfInBounds_toArray, List.set_cons_zero, List.set_cons_succ])); ((refine wpAnyH_take (i := 1) (v := ?_) rfl (by kernel_rfl) (by kernel_rfl) (by kernel_rfl) (fun _ _ _ h => h) (Or.inl ⟨by kernel_rfl, ?_⟩) (by assumption) ?_); rotate_left 1; (focus (intro w hSw; (try dsimp only at hSw); go_simp; (try with_reducible rfl))); (try simp only [Act.put, List.setIfInBounds_toArray, List.set_cons_zero, List.set_cons_succ])); ((refine wpAnyH_take (i := 2) (v := ?_) rfl (by kernel_rfl) (by kernel_rfl) (by kernel_rfl) (fun _ _ _ h => h) (Or.inl ⟨by kernel_rfl, ?_⟩) (by assumption) ?_); rotate_left 1; (focus (intro w hSw; (try dsimp only at hSw); go_simp; (try with_reducible rfl))); (try simp only [Act.put, List.setIfInBounds_toArray, List.set_cons_zero, List.set_cons_succ])); ((refine wpAnyH_take (i := 3) (v := ?_) rfl (by kernel_rfl) (by kernel_rfl) (by kernel_rfl) (fun _ _ _ h => h) (Or.inl ⟨by kernel_rfl, ?_⟩) (by assumption) ?_); rotate_left 1; (focus (intro w hSw; (try dsimp only at hSw); go_simp; (try with_reducible rfl))); (try simp only [Act.put, List.setIfInBounds_toArray, List.set_cons_zero, List.set_cons_succ])); ((refine wpAnyH_take (i := 4) (v := ?_) rfl (by kernel_rfl) (by kernel_rfl) (by kernel_rfl) (fun _ _ _ h => h) (Or.inl ⟨by kernel_rfl, ?_⟩) (by assumption) ?_); rotate_left 1; (focus (intro w hSw; (try dsimp only at hSw); go_simp; (try with_reducible rfl))); (try simp only [Act.put, List.setIfInBounds_toArray, List.set_cons_zero, List.set_cons_succ])); ((refine wpAnyH_take (i := 5) (v := ?_) rfl (by kernel_rfl) (by kernel_rfl) (by kernel_rfl) (fun _ _ _ h => h) (Or.inl ⟨by kernel_rfl, ?_⟩) (by assumption) ?_); rotate_left 1; (focus (intro w hSw; (try dsimp only at hSw); go_simp; (try with_reducible rfl))); (try simp only [Act.put, List.setIfInBounds_toArray, List.set_cons_zero, List.set_cons_succ])); ((refine wpAnyH_take (i := 6) (v := ?_) rfl (by kernel_rfl) (by kernel_rfl) (by kernel_rfl) (fun _ _ _ h => h) (Or.inl ⟨by kernel_rfl, ?_⟩) (by assumption) ?_); rotate_left 1; (focus (intro w hSw; (try dsimp only at hSw); go_simp; (try with_reducible rfl))); (try simp only [Act.put, List.setIfInBounds_toArray, List.set_cons_zero, List.set_cons_succ])); ((refine wpAnyH_take (i := 8) (v := ?_) rfl (by kernel_rfl) (by kernel_rfl) (by kernel_rfl) (fun _ _ _ h => h) (Or.inl ⟨by kernel_rfl, ?_⟩) (by assumption) ?_); rotate_left 1; (focus (intro w hSw; (try dsimp only at hSw); go_simp; (try with_reducible rfl))); (try simp only [Act.put, List.setIfInBounds_toArray, List.set_cons_zero, List.set_cons_succ])); ((refine wpAnyH_take (i := 9) (v := ?_) rfl (by kernel_rfl) (by kernel_rfl) (by kernel_rfl) (fun _ _ _ h => h) (Or.inl ⟨by kernel_rfl, ?_⟩) (by assumption) ?_); rotate_left 1; (focus (intro w hSw; (try dsimp only at hSw); go_simp; (try with_reducible rfl))); (try simp only [Act.put, List.setIfInBounds_toArray, List.set_cons_zero, List.set_cons_succ])); ((refine wpAnyH_take (i := 10) (v := ?_) rfl (by kernel_rfl) (by kernel_rfl) (by kernel_rfl) (fun _ _ _ h => h) (Or.inl ⟨by kernel_rfl, ?_⟩) (by assumption) ?_); rotate_left 1; (focus (intro w hSw; (try dsimp only at hSw); go_simp; (try with_reducible rfl))); (try simp only [Act.put, List.setIfInBounds_toArray, List.set_cons_zero, List.set_cons_succ])); ((refine wpAnyH_take (i := 12) (v := ?_) rfl (by kernel_rfl) (by kernel_rfl) (by kernel_rfl) (fun _ _ _ h => h) (Or.inl ⟨by kernel_rfl, ?_⟩) (by assumption) ?_); rotate_left 1; (focus (intro w hSw; (try dsimp only at hSw); go_simp; (try with_reducible rfl))); (try simp only [Act.put, List.setIfInBounds_toArray, List.set_cons_zero, List.set_cons_succ])); ((refine wpAnyH_take (i := 13) (v := ?_) rfl (by kernel_rfl) (by kernel_rfl) (by kernel_rfl) (fun _ _ _ h => h) (Or.inl ⟨by kernel_rfl, ?_⟩) (by assumption) ?_); rotate_left 1; (focus (intro w hSw; (try dsimp only at hSw); go_simp; (try with_reducible rfl))); (try simp only [Act.put, List.setIfInBounds_toArray, List.set_cons_zero, List.set_cons_succ])); ((refine wpAnyH_take (i := 15) (v := ?_) rfl (by kernel_rfl) (by kernel_rfl) (by kernel_rfl) (fun _ _ _ h => h) (Or.inl ⟨by kernel_rfl, ?_⟩) (by assumption) ?_); rotate_left 1; (focus (intro w hSw; (try dsimp only at hSw); go_simp; (try with_reducible rfl))); (try simp only [Act.put, List.setIfInBounds_toArray, List.set_cons_zero, List.set_cons_succ])); ((refine wpAnyH_take (i := 16) (v := ?_) rfl (by kernel_rfl) (by kernel_rfl) (by kernel_rfl) (fun _ _ _ h => h) (Or.inl ⟨by kernel_rfl, ?_⟩) (by assumption) ?_); rotate_left 1; (focus (intro w hSw; (try dsimp only at hSw); go_simp; (try with_reducible rfl))); (try simp only [Act.put, List.setIfInBounds_toArray, List.set_cons_zero, List.set_cons_succ])); ((refine wpAnyH_take (i := 19) (v := ?_) rfl (by kernel_rfl) (by kernel_rfl) (by kernel_rfl) (fun _ _ _ h => h) (Or.inl ⟨by kernel_rfl, ?_⟩) (by assumption) ?_); rotate_left 1; (focus (intro w hSw; (try dsimp only at hSw); go_simp; (try with_reducible rfl))); (try simp only [Act.put, List.setIfInBounds_toArray, List.set_cons_zero, List.set_cons_succ])); ((refine wpAnyH_take (i := 20) (v := ?_) rfl (by kernel_rfl) (by kernel_rfl) (by kernel_rfl) (fun _ _ _ h => h) (Or.inl ⟨by kernel_rfl, ?_⟩) (by assumption) ?_); rotate_left 1; (focus (intro w hSw; (try dsimp only at hSw); go_simp; (try with_reducible rfl))); (try simp only [Act.put, List.setIfInBounds_toArray, List.set_cons_zero, List.set_cons_succ])); ((refine wpAnyH_take (i := 21) (v := ?_) rfl (by kernel_rfl) (by kernel_rfl) (by kernel_rfl) (fun _ _ _ h => h) (Or.inl ⟨by kernel_rfl, ?_⟩) (by assumption) ?_); rotate_left 1; (focus (intro w hSw; (try dsimp only at hSw); go_simp; (try with_reducible rfl))); (try simp only [Act.put, List.setIfInBounds_toArray, List.set_cons_zero, List.set_cons_succ])); ((refine wpAnyH_take (i := 23) (v := ?_) rfl (by kernel_rfl) (by kernel_rfl) (by kernel_rfl) (fun _ _ _ h => h) (Or.inl ⟨by kernel_rfl, ?_⟩) (by assumption) ?_); rotate_left 1; (focus (intro w hSw; (try dsimp only at hSw); go_simp; (try with_reducible rfl))); (try simp only [Act.put, List.setIfInBounds_toArray, List.set_cons_zero, List.set_cons_succ])); ((refine wpAnyH_take (i := 24) (v := ?_) rfl (by kernel_rfl) (by kernel_rfl) (by kernel_rfl) (fun _ _ _ h => h) (Or.inl ⟨by kernel_rfl, ?_⟩) (by assumption) ?_); rotate_left 1; (focus (intro w hSw; (try dsimp only at hSw); go_simp; (try with_reducible rfl))); (try simp only [Act.put, List.setIfInBounds_toArray, List.set_cons_zero, List.set_cons_succ])); ((refine wpAnyH_take (i := 25) (v := ?_) rfl (by kernel_rfl) (by kernel_rfl) (by kernel_rfl) (fun _ _ _ h => h) (Or.inl ⟨by kernel_rfl, ?_⟩) (by assumption) ?_); rotate_left 1; (focus (intro w hSw; (try dsimp only at hSw); go_simp; (try with_reducible rfl))); (try simp only [Act.put, List.setIfInBounds_toArray, List.set_cons_zero, List.set_cons_succ])))
        -- R7 begin
        refine wpAnyH_ready (rs := [7, 29]) (by kernel_rfl) (by simp) ?_
        refine AllReadyH.cons rfl (fun K hK => ?_) (AllReadyH.cons rfl (fun K hK => ?_) AllReadyH.nil)
        · rw [if_pos (by kernel_rfl)]
          go_simp
          with_reducible refine (HQ1.out _ hEa).mono ?_
          rintro e wn ⟨rfl, hEn⟩
          replace hEa := hEa.trans hEn
          clear hEn
          refine hK _ _ (keepE hEa) (fun hh => ?_)
          clear hK K hHeld
          have hHeld := hh
          clear hh
          (try simp only [Act.put, List.setIfInBounds_toArray, List.set_cons_zero, List.set_cons_succ])
          refine wpAnyH_ready (rs := [11, 29]) (by kernel_rfl) (by simp) ?_
          refine AllReadyH.cons rfl (fun K hK => ?_) (AllReadyH.cons rfl (fun K hK => ?_) AllReadyH.nil)
          · rw [if_pos (by kernel_rfl)]
            go_simp
            with_reducible refine (HQ2.out _ hEa).mono ?_
            rintro e wn ⟨rfl, hEn⟩
            replace hEa := hEa.trans hEn
            clear hEn
            refine hK _ _ (keepE hEa) (fun hh => ?_)
            clear hK K hHeld
            have hHeld := hh
            clear hh
            (try simp only [Act.put, List.setIfInBounds_toArray, List.set_cons_zero, List.set_cons_succ])
            refine wpAnyH_ready (rs := [14, 29]) (by kernel_rfl) (by simp) ?_
            refine AllReadyH.cons rfl (fun K hK => ?_) (AllReadyH.cons rfl (fun K hK => ?_) AllReadyH.nil)
            · rw [if_pos (by kernel_rfl)]
              go_simp
              with_reducible refine (HQ3.out _ hEa).mono ?_
              rintro e wn ⟨rfl, hEn⟩
              replace hEa := hEa.trans hEn
              clear hEn
              refine hK _ _ (keepE hEa) (fun hh => ?_)
              clear hK K hHeld
              have hHeld := hh
              clear hh
              (try simp only [Act.put, List.setIfInBounds_toArray, List.set_cons_zero, List.set_cons_succ])
              refine wpAnyH_ready (rs := [17, 29]) (by kernel_rfl) (by simp) ?_
              refine AllReadyH.cons rfl (fun K hK => ?_) (AllReadyH.cons rfl (fun K hK => ?_) AllReadyH.nil)
              · rw [if_pos (by kernel_rfl)]
                go_simp
                with_reducible refine (HQ4.out _ hEa).mono ?_
                rintro e wn ⟨rfl, hEn⟩
                replace hEa := hEa.trans hEn
                clear hEn
                refine hK _ _ (keepE hEa) (fun hh => ?_)
                clear hK K hHeld
                have hHeld := hh
                clear hh
                (try simp only [Act.put, List.setIfInBounds_toArray, List.set_cons_zero, List.set_cons_succ])
                (((refine wpAnyH_take (i := 18) (v := ?_) rfl (by kernel_rfl) (by kernel_rfl) (by kernel_rfl) (fun _ _ _ h => h) (Or.inl ⟨by kernel_rfl, ?_⟩) (by assumption) ?_); rotate_left 1; (focus (intro w hSw; (try dsimp only at hSw); go_simp; (try with_reducible rfl))); (try simp only [Act.put, List.setIfInBounds_toArray, List.set_cons_zero, List.set_cons_succ])))
                refine wpAnyH_ready (rs := [22, 29]) (by kernel_rfl) (by simp) ?_
                refine AllReadyH.cons rfl (fun K hK => ?_) (AllReadyH.cons rfl (fun K hK => ?_) AllReadyH.nil)
                · rw [if_pos (by kernel_rfl)]
                  go_simp
                  with_reducible refine (HQ5.out _ hEa).mono ?_
                  rintro e wn ⟨rfl, hEn⟩
                  replace hEa := hEa.trans hEn
                  clear hEn
                  refine hK _ _ (keepE hEa) (fun hh => ?_)
                  clear hK K hHeld
                  have hHeld := hh
                  clear hh
                  (try simp only [Act.put, List.setIfInBounds_toArray, List.set_cons_zero, List.set_cons_succ])
                  refine wpAnyH_ready (rs := [26, 29]) (by kernel_rfl) (by simp) ?_
                  refine AllReadyH.cons rfl (fun K hK => ?_) (AllReadyH.cons rfl (fun K hK => ?_) AllReadyH.nil)
                  · rw [if_pos (by kernel_rfl)]
                    go_simp
                    with_reducible refine (HQ6.out _ hEa).mono ?_
                    rintro e wn ⟨rfl, hEn⟩
                    replace hEa := hEa.trans hEn
                    clear hEn
                    refine hK _ _ (keepE hEa) (fun hh => ?_)
                    clear hK K hHeld
                    have hHeld := hh
                    clear hh
                    (try simp only [Act.put, List.setIfInBounds_toArray, List.set_cons_zero, List.set_cons_succ])
                    (((refine wpAnyH_take (i := 27) (v := ?_) rfl (by kernel_rfl) (by kernel_rfl) (by kernel_rfl) (fun _ _ _ h => h) (Or.inl ⟨by kernel_rfl, ?_⟩) (by assumption) ?_); rotate_left 1; (focus (intro w hSw; (try dsimp only at hSw); go_simp; (try with_reducible rfl))); (try simp only [Act.put, List.setIfInBounds_toArray, List.set_cons_zero, List.set_cons_succ])); ((refine wpAnyH_take (i := 28) (v := ?_) rfl (by kernel_rfl) (by kernel_rfl) (by kernel_rfl) (fun _ _ _ h => h) (Or.inl ⟨by kernel_rfl, ?_⟩) (by assumption) ?_); rotate_left 1; (focus (intro w hSw; (try dsimp only at hSw); go_simp; (try with_reducible rfl))); (try simp only [Act.put, List.setIfInBounds_toArray, List.set_cons_zero, List.set_cons_succ])))
                    (((refine wpAnyH_ready (rs := [29]) (by kernel_rfl) (by simp) ?_); (refine AllReadyH.cons rfl (fun K hK => ?_) AllReadyH.nil); (rw [if_pos (by kernel_rfl)]); go_simp))
                    refine hK _ _ (keepE (hEa.alloc _)) (fun hh => ?_)
                    obtain ⟨wm, hwm⟩ : ∃ wm, wn.alloc (.cells #[.int .i64 0, .int .i64 0, .int .i64 0, .int .i64 0, .int .i64 0, .int .i64 0, .int .i64 0, .int .i64 0, .int .i64 0, .slice none 0 0, .slice none 0 0] 47) = wm := ⟨_, rfl⟩
                    have hBz : FlBox wm (wn.heap.size) zeroFl zS zS := by rw [← hwm]; exact FlBox.new wn zeroFl zS zS
                    have hzB : wa.heap.size ≤ wn.heap.size := hEa.le
                    replace hEa : E wa wm := by rw [← hwm]; exact hEa.alloc _
                    clear hK K hHeld hh
                    have hHeld := keepE hEa
                    (try simp only [Act.put, List.setIfInBounds_toArray, List.set_cons_zero, List.set_cons_succ])
                    try rw [hwm]
                    clear hwm
                    obtain ⟨⟨y0, y1, y2, y3, y4, y5, y6, y7, y8, y9, y10⟩, z0, z1, z2, z3, z4, z5, z6, z7, z8, z9, z10⟩ := hBz.both
                    (((refine wpAnyH_ready (rs := [30]) (by kernel_rfl) (by simp) ?_); (refine AllReadyH.cons rfl (fun K hK => ?_) AllReadyH.nil); (rw [if_pos (by kernel_rfl)]); go_simp))
                    have hfin := hBz.putAll f0 zS zS
                    have hEf := hEa.set11 hzB 0 f0 zS zS
                    rw [hf0] at hfin hEf
                    simp only [Nat.zero_add, zS] at hfin hEf
                    rw [← hf0] at hfin
                    refine hK _ _ (keepE hEf) (fun hh => ?_)
                    clear hK K hHeld hh
                    (try simp only [Act.put, List.setIfInBounds_toArray, List.set_cons_zero, List.set_cons_succ])
                    refine wpAnyH_done (by kernel_rfl) ?_ _
                    go_simp
                    go_wp2_with fail
                    go_meet
                    exact ⟨_, rfl, hzB, hfin, hEf⟩
                  · rw [if_pos (by kernel_rfl)]
                    go_simp
                    refine hK _ _ (keepE (hEa.alloc _)) (fun hh => ?_)
                    obtain ⟨wm, hwm⟩ : ∃ wm, wn.alloc (.cells #[.int .i64 0, .int .i64 0, .int .i64 0, .int .i64 0, .int .i64 0, .int .i64 0, .int .i64 0, .int .i64 0, .int .i64 0, .slice none 0 0, .slice none 0 0] 47) = wm := ⟨_, rfl⟩
                    have hBz : FlBox wm (wn.heap.size) zeroFl zS zS := by rw [← hwm]; exact FlBox.new wn zeroFl zS zS
                    have hzB : wa.heap.size ≤ wn.heap.size := hEa.le
                    replace hEa : E wa wm := by rw [← hwm]; exact hEa.alloc _
                    clear hK K hHeld hh
                    have hHeld := keepE hEa
                    (try simp only [Act.put, List.setIfInBounds_toArray, List.set_cons_zero, List.set_cons_succ])
                    try rw [hwm]
                    clear hwm
                    obtain ⟨⟨y0, y1, y2, y3, y4, y5, y6, y7, y8, y9, y10⟩, z0, z1, z2, z3, z4, z5, z6, z7, z8, z9, z10⟩ := hBz.both
                    (((refine wpAnyH_ready (rs := [26]) (by kernel_rfl) (by simp) ?_); (refine AllReadyH.cons rfl (fun K hK => ?_) AllReadyH.nil); (rw [if_pos (by kernel_rfl)]); go_simp))
                    with_reducible refine (HQ6.out _ hEa).mono ?_
                    rintro e wn ⟨rfl, hEn⟩
                    replace hEa := hEa.trans hEn
                    clear y0 y1 y2 y3 y4 y5 y6 y7 y8 y9 y10 z0 z1 z2 z3 z4 z5 z6 z7 z8 z9 z10
                    replace hBz := hBz.e hEn
                    obtain ⟨⟨y0, y1, y2, y3, y4, y5, y6, y7, y8, y9, y10⟩, z0, z1, z2, z3, z4, z5, z6, z7, z8, z9, z10⟩ := hBz.both
                    clear hEn
                    refine hK _ _ (keepE hEa) (fun hh => ?_)
                    clear hK K hHeld
                    have hHeld := hh
                    clear hh
                    (try simp only [Act.put, List.setIfInBounds_toArray, List.set_cons_zero, List.set_cons_succ])
                    (((refine wpAnyH_take (i := 27) (v := ?_) rfl (by kernel_rfl) (by kernel_rfl) (by kernel_rfl) (fun _ _ _ h => h) (Or.inl ⟨by kernel_rfl, ?_⟩) (by assumption) ?_); rotate_left 1; (focus (intro w hSw; (try dsimp only at hSw); go_simp; (try with_reducible rfl))); (try simp only [Act.put, List.setIfInBounds_toArray, List.set_cons_zero, List.set_cons_succ])); ((refine wpAnyH_take (i := 28) (v := ?_) rfl (by kernel_rfl) (by kernel_rfl) (by kernel_rfl) (fun _ _ _ h => h) (Or.inl ⟨by kernel_rfl, ?_⟩) (by assumption) ?_); rotate_left 1; (focus (intro w hSw; (try dsimp only at hSw); go_simp; (try with_reducible rfl))); (try simp only [Act.put, List.setIfInBounds_toArray, List.set_cons_zero, List.set_cons_succ])))
                    (((refine wpAnyH_ready (rs := [30]) (by kernel_rfl) (by simp) ?_); (refine AllReadyH.cons rfl (fun K hK => ?_) AllReadyH.nil); (rw [if_pos (by kernel_rfl)]); go_simp))
                    have hfin := hBz.putAll f0 zS zS
                    have hEf := hEa.set11 hzB 0 f0 zS zS
                    rw [hf0] at hfin hEf
                    simp only [Nat.zero_add, zS] at hfin hEf
                    rw [← hf0] at hfin
                    refine hK _ _ (keepE hEf) (fun hh => ?_)
                    clear hK K hHeld hh
                    (try simp only [Act.put, List.setIfInBounds_toArray, List.set_cons_zero, List.set_cons_succ])
                    refine wpAnyH_done (by kernel_rfl) ?_ _
                    go_simp
                    go_wp2_with fail
                    go_meet
                    exact ⟨_, rfl, hzB, hfin, hEf⟩
                · rw [if_pos (by kernel_rfl)]
                  go_simp
                  refine hK _ _ (keepE (hEa.alloc _)) (fun hh => ?_)
                  obtain ⟨wm, hwm⟩ : ∃ wm, wn.alloc (.cells #[.int .i64 0, .int .i64 0, .int .i64 0, .int .i64 0, .int .i64 0, .int .i64 0, .int .i64 0, .int .i64 0, .int .i64 0, .slice none 0 0, .slice none 0 0] 47) = wm := ⟨_, rfl⟩
                  have hBz : FlBox wm (wn.heap.size) zeroFl zS zS := by rw [← hwm]; exact FlBox.new wn zeroFl zS zS
                  have hzB : wa.heap.size ≤ wn.heap.size := hEa.le
                  replace hEa : E wa wm := by rw [← hwm]; exact hEa.alloc _
                  clear hK K hHeld hh
                  have hHeld := keepE hEa
                  (try simp only [Act.put, List.setIfInBounds_toArray, List.set_cons_zero, List.set_cons_succ])
                  try rw [hwm]
                  clear hwm
                  obtain ⟨⟨y0, y1, y2, y3, y4, y5, y6, y7, y8, y9, y10⟩, z0, z1, z2, z3, z4, z5, z6, z7, z8, z9, z10⟩ := hBz.both
                  (((refine wpAnyH_ready (rs := [22]) (by kernel_rfl) (by simp) ?_); (refine AllReadyH.cons rfl (fun K hK => ?_) AllReadyH.nil); (rw [if_pos (by kernel_rfl)]); go_simp))
                  with_reducible refine (HQ5.out _ hEa).mono ?_
                  rintro e wn ⟨rfl, hEn⟩
                  replace hEa := hEa.trans hEn
                  clear y0 y1 y2 y3 y4 y5 y6 y7 y8 y9 y10 z0 z1 z2 z3 z4 z5 z6 z7 z8 z9 z10
                  replace hBz := hBz.e hEn
                  obtain ⟨⟨y0, y1, y2, y3, y4, y5, y6, y7, y8, y9, y10⟩, z0, z1, z2, z3, z4, z5, z6, z7, z8, z9, z10⟩ := hBz.both
                  clear hEn
                  refine hK _ _ (keepE hEa) (fun hh => ?_)
                  clear hK K hHeld
                  have hHeld := hh
                  clear hh
                  (try simp only [Act.put, List.setIfInBounds_toArray, List.set_cons_zero, List.set_cons_succ])
                  (((refine wpAnyH_ready (rs := [26]) (by kernel_rfl) (by simp) ?_); (refine AllReadyH.cons rfl (fun K hK => ?_) AllReadyH.nil); (rw [if_pos (by kernel_rfl)]); go_simp))
                  with_reducible refine (HQ6.out _ hEa).mono ?_
                  rintro e wn ⟨rfl, hEn⟩
                  replace hEa := hEa.trans hEn
                  clear y0 y1 y2 y3 y4 y5 y6 y7 y8 y9 y10 z0 z1 z2 z3 z4 z5 z6 z7 z8 z9 z10
                  replace hBz := hBz.e hEn
                  obtain ⟨⟨y0, y1, y2, y3, y4, y5, y6, y7, y8, y9, y10⟩, z0, z1, z2, z3, z4, z5, z6, z7, z8, z9, z10⟩ := hBz.both
                  clear hEn
                  refine hK _ _ (keepE hEa) (fun hh => ?_)
                  clear hK K hHeld
                  have hHeld := hh
                  clear hh
                  (try simp only [Act.put, List.setIfInBounds_toArray, List.set_cons_zero, List.set_cons_succ])
                  (((refine wpAnyH_take (i := 27) (v := ?_) rfl (by kernel_rfl) (by kernel_rfl) (by kernel_rfl) (fun _ _ _ h => h) (Or.inl ⟨by kernel_rfl, ?_⟩) (by assumption) ?_); rotate_left 1; (focus (intro w hSw; (try dsimp only at hSw); go_simp; (try with_reducible rfl))); (try simp only [Act.put, List.setIfInBounds_toArray, List.set_cons_zero, List.set_cons_succ])); ((refine wpAnyH_take (i := 28) (v := ?_) rfl (by kernel_rfl) (by kernel_rfl) (by kernel_rfl) (fun _ _ _ h => h) (Or.inl ⟨by kernel_rfl, ?_⟩) (by assumption) ?_); rotate_left 1; (focus (intro w hSw; (try dsimp only at hSw); go_simp; (try with_reducible rfl))); (try simp only [Act.put, List.setIfInBounds_toArray, List.set_cons_zero, List.set_cons_succ])))
                  (((refine wpAnyH_ready (rs := [30]) (by kernel_rfl) (by simp) ?_); (refine AllReadyH.cons rfl (fun K hK => ?_) AllReadyH.nil); (rw [if_pos (by kernel_rfl)]); go_simp))
                  have hfin := hBz.putAll f0 zS zS
                  have hEf := hEa.set11 hzB 0 f0 zS zS
                  rw [hf0] at hfin hEf
                  simp only [Nat.zero_add, zS] at hfin hEf
                  rw [← hf0] at hfin
                  refine hK _ _ (keepE hEf) (fun hh => ?_)
                  clear hK K hHeld hh
                  (try simp only [Act.put, List.setIfInBounds_toArray, List.set_cons_zero, List.set_cons_succ])
                  refine wpAnyH_done (by kernel_rfl) ?_ _
                  go_simp
                  go_wp2_with fail
                  go_meet
                  exact ⟨_, rfl, hzB, hfin, hEf⟩
              · rw [if_pos (by kernel_rfl)]
                go_simp
                refine hK _ _ (keepE (hEa.alloc _)) (fun hh => ?_)
                obtain ⟨wm, hwm⟩ : ∃ wm, wn.alloc (.cells #[.int .i64 0, .int .i64 0, .int .i64 0, .int .i64 0, .int .i64 0, .int .i64 0, .int .i64 0, .int .i64 0, .int .i64 0, .slice none 0 0, .slice none 0 0] 47) = wm := ⟨_, rfl⟩
                have hBz : FlBox wm (wn.heap.size) zeroFl zS zS := by rw [← hwm]; exact FlBox.new wn zeroFl zS zS
                have hzB : wa.heap.size ≤ wn.heap.size := hEa.le
                replace hEa : E wa wm := by rw [← hwm]; exact hEa.alloc _
                clear hK K hHeld hh
                have hHeld := keepE hEa
                (try simp only [Act.put, List.setIfInBounds_toArray, List.set_cons_zero, List.set_cons_succ])
                try rw [hwm]
                clear hwm
                obtain ⟨⟨y0, y1, y2, y3, y4, y5, y6, y7, y8, y9, y10⟩, z0, z1, z2, z3, z4, z5, z6, z7, z8, z9, z10⟩ := hBz.both
                (((refine wpAnyH_ready (rs := [17]) (by kernel_rfl) (by simp) ?_); (refine AllReadyH.cons rfl (fun K hK => ?_) AllReadyH.nil); (rw [if_pos (by kernel_rfl)]); go_simp))
                with_reducible refine (HQ4.out _ hEa).mono ?_
                rintro e wn ⟨rfl, hEn⟩
                replace hEa := hEa.trans hEn
                clear y0 y1 y2 y3 y4 y5 y6 y7 y8 y9 y10 z0 z1 z2 z3 z4 z5 z6 z7 z8 z9 z10
                replace hBz := hBz.e hEn
                obtain ⟨⟨y0, y1, y2, y3, y4, y5, y6, y7, y8, y9, y10⟩, z0, z1, z2, z3, z4, z5, z6, z7, z8, z9, z10⟩ := hBz.both
                clear hEn
                refine hK _ _ (keepE hEa) (fun hh => ?_)
                clear hK K hHeld
                have hHeld := hh
                clear hh
                (try simp only [Act.put, List.setIfInBounds_toArray, List.set_cons_zero, List.set_cons_succ])
                (((refine wpAnyH_take (i := 18) (v := ?_) rfl (by kernel_rfl) (by kernel_rfl) (by kernel_rfl) (fun _ _ _ h => h) (Or.inl ⟨by kernel_rfl, ?_⟩) (by assumption) ?_); rotate_left 1; (focus (intro w hSw; (try dsimp only at hSw); go_simp; (try with_reducible rfl))); (try simp only [Act.put, List.setIfInBounds_toArray, List.set_cons_zero, List.set_cons_succ])))
                (((refine wpAnyH_ready (rs := [22]) (by kernel_rfl) (by simp) ?_); (refine AllReadyH.cons rfl (fun K hK => ?_) AllReadyH.nil); (rw [if_pos (by kernel_rfl)]); go_simp))
                with_reducible refine (HQ5.out _ hEa).mono ?_
                rintro e wn ⟨rfl, hEn⟩
                replace hEa := hEa.trans hEn
                clear y0 y1 y2 y3 y4 y5 y6 y7 y8 y9 y10 z0 z1 z2 z3 z4 z5 z6 z7 z8 z9 z10
                replace hBz := hBz.e hEn
                obtain ⟨⟨y0, y1, y2, y3, y4, y5, y6, y7, y8, y9, y10⟩, z0, z1, z2, z3, z4, z5, z6, z7, z8, z9, z10⟩ := hBz.both
                clear hEn
                refine hK _ _ (keepE hEa) (fun hh => ?_)
                clear hK K hHeld
                have hHeld := hh
                clear hh
                (try simp only [Act.put, List.setIfInBounds_toArray, List.set_cons_zero, List.set_cons_succ])
                (((refine wpAnyH_ready (rs := [26]) (by kernel_rfl) (by simp) ?_); (refine AllReadyH.cons rfl (fun K hK => ?_) AllReadyH.nil); (rw [if_pos (by kernel_rfl)]); go_simp))
                with_reducible refine (HQ6.out _ hEa).mono ?_
                rintro e wn ⟨rfl, hEn⟩
                replace hEa := hEa.trans hEn
                clear y0 y1 y2 y3 y4 y5 y6 y7 y8 y9 y10 z0 z1 z2 z3 z4 z5 z6 z7 z8 z9 z10
                replace hBz := hBz.e hEn
                obtain ⟨⟨y0, y1, y2, y3, y4, y5, y6, y7, y8, y9, y10⟩, z0, z1, z2, z3, z4, z5, z6, z7, z8, z9, z10⟩ := hBz.both
                clear hEn
                refine hK _ _ (keepE hEa) (fun hh => ?_)
                clear hK K hHeld
                have hHeld := hh
                clear hh
                (try simp only [Act.put, List.setIfInBounds_toArray, List.set_cons_zero, List.set_cons_succ])
                (((refine wpAnyH_take (i := 27) (v := ?_) rfl (by kernel_rfl) (by kernel_rfl) (by kernel_rfl) (fun _ _ _ h => h) (Or.inl ⟨by kernel_rfl, ?_⟩) (by assumption) ?_); rotate_left 1; (focus (intro w hSw; (try dsimp only at hSw); go_simp; (try with_reducible rfl))); (try simp only [Act.put, List.setIfInBounds_toArray, List.set_cons_zero, List.set_cons_succ])); ((refine wpAnyH_take (i := 28) (v := ?_) rfl (by kernel_rfl) (by kernel_rfl) (by kernel_rfl) (fun _ _ _ h => h) (Or.inl ⟨by kernel_rfl, ?_⟩) (by assumption) ?_); rotate_left 1; (focus (intro w hSw; (try dsimp only at hSw); go_simp; (try with_reducible rfl))); (try simp only [Act.put, List.setIfInBounds_toArray, List.set_cons_zero, List.set_cons_succ])))
                (((refine wpAnyH_ready (rs := [30]) (by kernel_rfl) (by simp) ?_); (refine AllReadyH.cons rfl (fun K hK => ?_) AllReadyH.nil); (rw [if_pos (by kernel_rfl)]); go_simp))
                have hfin := hBz.putAll f0 zS zS
                have hEf := hEa.set11 hzB 0 f0 zS zS
                rw [hf0] at hfin hEf
                simp only [Nat.zero_add, zS] at hfin hEf
                rw [← hf0] at hfin
                refine hK _ _ (keepE hEf) (fun hh => ?_)
                clear hK K hHeld hh
                (try simp only [Act.put, List.setIfInBounds_toArray, List.set_cons_zero, List.set_cons_succ])
                refine wpAnyH_done (by kernel_rfl) ?_ _
                go_simp
                go_wp2_with fail
                go_meet
                exact ⟨_, rfl, hzB, hfin, hEf⟩
            · rw [if_pos (by kernel_rfl)]
              go_simp
              refine hK _ _ (keepE (hEa.alloc _)) (fun hh => ?_)
              obtain ⟨wm, hwm⟩ : ∃ wm, wn.alloc (.cells #[.int .i64 0, .int .i64 0, .int .i64 0, .int .i64 0, .int .i64 0, .int .i64 0, .int .i64 0, .int .i64 0, .int .i64 0, .slice none 0 0, .slice none 0 0] 47) = wm := ⟨_, rfl⟩
              have hBz : FlBox wm (wn.heap.size) zeroFl zS zS := by rw [← hwm]; exact FlBox.new wn zeroFl zS zS
              have hzB : wa.heap.size ≤ wn.heap.size := hEa.le
              replace hEa : E wa wm := by rw [← hwm]; exact hEa.alloc _
              clear hK K hHeld hh
              have hHeld := keepE hEa
              (try simp only [Act.put, List.setIfInBounds_toArray, List.set_cons_zero, List.set_cons_succ])
              try rw [hwm]
              clear hwm
              obtain ⟨⟨y0, y1, y2, y3, y4, y5, y6, y7, y8, y9, y10⟩, z0, z1, z2, z3, z4, z5, z6, z7, z8, z9, z10⟩ := hBz.both
              (((refine wpAnyH_ready (rs := [14]) (by kernel_rfl) (by simp) ?_); (refine AllReadyH.cons rfl (fun K hK => ?_) AllReadyH.nil); (rw [if_pos (by kernel_rfl)]); go_simp))
              with_reducible refine (HQ3.out _ hEa).mono ?_
              rintro e wn ⟨rfl, hEn⟩
              replace hEa := hEa.trans hEn
              clear y0 y1 y2 y3 y4 y5 y6 y7 y8 y9 y10 z0 z1 z2 z3 z4 z5 z6 z7 z8 z9 z10
              replace hBz := hBz.e hEn
              obtain ⟨⟨y0, y1, y2, y3, y4, y5, y6, y7, y8, y9, y10⟩, z0, z1, z2, z3, z4, z5, z6, z7, z8, z9, z10⟩ := hBz.both
              clear hEn
              refine hK _ _ (keepE hEa) (fun hh => ?_)
              clear hK K hHeld
              have hHeld := hh
              clear hh
              (try simp only [Act.put, List.setIfInBounds_toArray, List.set_cons_zero, List.set_cons_succ])
              (((refine wpAnyH_ready (rs := [17]) (by kernel_rfl) (by simp) ?_); (refine AllReadyH.cons rfl (fun K hK => ?_) AllReadyH.nil); (rw [if_pos (by kernel_rfl)]); go_simp))
              with_reducible refine (HQ4.out _ hEa).mono ?_
              rintro e wn ⟨rfl, hEn⟩
              replace hEa := hEa.trans hEn
              clear y0 y1 y2 y3 y4 y5 y6 y7 y8 y9 y10 z0 z1 z2 z3 z4 z5 z6 z7 z8 z9 z10
              replace hBz := hBz.e hEn
              obtain ⟨⟨y0, y1, y2, y3, y4, y5, y6, y7, y8, y9, y10⟩, z0, z1, z2, z3, z4, z5, z6, z7, z8, z9, z10⟩ := hBz.both
              clear hEn
              refine hK _ _ (keepE hEa) (fun hh => ?_)
              clear hK K hHeld
              have hHeld := hh
              clear hh
              (try simp only [Act.put, List.setIfInBounds_toArray, List.set_cons_zero, List.set_cons_succ])
              (((refine wpAnyH_take (i := 18) (v := ?_) rfl (by kernel_rfl) (by kernel_rfl) (by kernel_rfl) (fun _ _ _ h => h) (Or.inl ⟨by kernel_rfl, ?_⟩) (by assumption) ?_); rotate_left 1; (focus (intro w hSw; (try dsimp only at hSw); go_simp; (try with_reducible rfl))); (try simp only [Act.put, List.setIfInBounds_toArray, List.set_cons_zero, List.set_cons_succ])))
              (((refine wpAnyH_ready (rs := [22]) (by kernel_rfl) (by simp) ?_); (refine AllReadyH.cons rfl (fun K hK => ?_) AllReadyH.nil); (rw [if_pos (by kernel_rfl)]); go_simp))
              with_reducible refine (HQ5.out _ hEa).mono ?_
              rintro e wn ⟨rfl, hEn⟩
              replace hEa := hEa.trans hEn
              clear y0 y1 y2 y3 y4 y5 y6 y7 y8 y9 y10 z0 z1 z2 z3 z4 z5 z6 z7 z8 z9 z10
              replace hBz := hBz.e hEn
              obtain ⟨⟨y0, y1, y2, y3, y4, y5, y6, y7, y8, y9, y10⟩, z0, z1, z2, z3, z4, z5, z6, z7, z8, z9, z10⟩ := hBz.both
              clear hEn
              refine hK _ _ (keepE hEa) (fun hh => ?_)
              clear hK K hHeld
              have hHeld := hh
              clear hh
              (try simp only [Act.put, List.setIfInBounds_toArray, List.set_cons_zero, List.set_cons_succ])
              (((refine wpAnyH_ready (rs := [26]) (by kernel_rfl) (by simp) ?_); (refine AllReadyH.cons rfl (fun K hK => ?_) AllReadyH.nil); (rw [if_pos (by kernel_rfl)]); go_simp))
              with_reducible refine (HQ6.out _ hEa).mono ?_
              rintro e wn ⟨rfl, hEn⟩
              replace hEa := hEa.trans hEn
              clear y0 y1 y2 y3 y4 y5 y6 y7 y8 y9 y10 z0 z1 z2 z3 z4 z5 z6 z7 z8 z9 z10
              replace hBz := hBz.e hEn
              obtain ⟨⟨y0, y1, y2, y3, y4, y5, y6, y7, y8, y9, y10⟩, z0, z1, z2, z3, z4, z5, z6, z7, z8, z9, z10⟩ := hBz.both
              clear hEn
              refine hK _ _ (keepE hEa) (fun hh => ?_)
              clear hK K hHeld
              have hHeld := hh
              clear hh
              (try simp only [Act.put, List.setIfInBounds_toArray, List.set_cons_zero, List.set_cons_succ])
              (((refine wpAnyH_take (i := 27) (v := ?_) rfl (by kernel_rfl) (by kernel_rfl) (by kernel_rfl) (fun _ _ _ h => h) (Or.inl ⟨by kernel_rfl, ?_⟩) (by assumption) ?_); rotate_left 1; (focus (intro w hSw; (try dsimp only at hSw); go_simp; (try with_reducible rfl))); (try simp only [Act.put, List.setIfInBounds_toArray, List.set_cons_zero, List.set_cons_succ])); ((refine wpAnyH_take (i := 28) (v := ?_) rfl (by kernel_rfl) (by kernel_rfl) (by kernel_rfl) (fun _ _ _ h => h) (Or.inl ⟨by kernel_rfl, ?_⟩) (by assumption) ?_); rotate_left 1; (focus (intro w hSw; (try dsimp only at hSw); go_simp; (try with_reducible rfl))); (try simp only [Act.put, List.setIfInBounds_toArray, List.set_cons_zero, List.set_cons_succ])))
              (((refine wpAnyH_ready (rs := [30]) (by kernel_rfl) (by simp) ?_); (refine AllReadyH.cons rfl (fun K hK => ?_) AllReadyH.nil); (rw [if_pos (by kernel_rfl)]); go_simp))
              have hfin := hBz.putAll f0 zS zS
              have hEf := hEa.set11 hzB 0 f0 zS zS
              rw [hf0] at hfin hEf
              simp only [Nat.zero_add, zS] at hfin hEf
              rw [← hf0] at hfin
              refine hK _ _ (keepE hEf) (fun hh => ?_)
              clear hK K hHeld hh
              (try simp only [Act.put, List.setIfInBounds_toArray, List.set_cons_zero, List.set_cons_succ])
              refine wpAnyH_done (by kernel_rfl) ?_ _
              go_simp
              go_wp2_with fail
              go_meet
              exact ⟨_, rfl, hzB, hfin, hEf⟩
          · rw [if_pos (by kernel_rfl)]
            go_simp
            refine hK _ _ (keepE (hEa.alloc _)) (fun hh => ?_)
            obtain ⟨wm, hwm⟩ : ∃ wm, wn.alloc (.cells #[.int .i64 0, .int .i64 0, .int .i64 0, .int .i64 0, .int .i64 0, .int .i64 0, .int .i64 0, .int .i64 0, .int .i64 0, .slice none 0 0, .slice none 0 0] 47) = wm := ⟨_, rfl⟩
            have hBz : FlBox wm (wn.heap.size) zeroFl zS zS := by rw [← hwm]; exact FlBox.new wn zeroFl zS zS
            have hzB : wa.heap.size ≤ wn.heap.size := hEa.le
            replace hEa : E wa wm := by rw [← hwm]; exact hEa.alloc _
            clear hK K hHeld hh
            have hHeld := keepE hEa
            (try simp only [Act.put, List.setIfInBounds_toArray, List.set_cons_zero, List.set_cons_succ])
            try rw [hwm]
            clear hwm
            obtain ⟨⟨y0, y1, y2, y3, y4, y5, y6, y7, y8, y9, y10⟩, z0, z1, z2, z3, z4, z5, z6, z7, z8, z9, z10⟩ := hBz.both
            (((refine wpAnyH_ready (rs := [11]) (by kernel_rfl) (by simp) ?_); (refine AllReadyH.cons rfl (fun K hK => ?_) AllReadyH.nil); (rw [if_pos (by kernel_rfl)]); go_simp))
            with_reducible refine (HQ2.out _ hEa).mono ?_
            rintro e wn ⟨rfl, hEn⟩
            replace hEa := hEa.trans hEn
            clear y0 y1 y2 y3 y4 y5 y6 y7 y8 y9 y10 z0 z1 z2 z3 z4 z5 z6 z7 z8 z9 z10
            replace hBz := hBz.e hEn
            obtain ⟨⟨y0, y1, y2, y3, y4, y5, y6, y7, y8, y9, y10⟩, z0, z1, z2, z3, z4, z5, z6, z7, z8, z9, z10⟩ := hBz.both
            clear hEn
            refine hK _ _ (keepE hEa) (fun hh => ?_)
            clear hK K hHeld
            have hHeld := hh
            clear hh
            (try simp only [Act.put, List.setIfInBounds_toArray, List.set_cons_zero, List.set_cons_succ])
            (((refine wpAnyH_ready (rs := [14]) (by kernel_rfl) (by simp) ?_); (refine AllReadyH.cons rfl (fun K hK => ?_) AllReadyH.nil); (rw [if_pos (by kernel_rfl)]); go_simp))
            with_reducible refine (HQ3.out _ hEa).mono ?_
            rintro e wn ⟨rfl, hEn⟩
            replace hEa := hEa.trans hEn
            clear y0 y1 y2 y3 y4 y5 y6 y7 y8 y9 y10 z0 z1 z2 z3 z4 z5 z6 z7 z8 z9 z10
            replace hBz := hBz.e hEn
            obtain ⟨⟨y0, y1, y2, y3, y4, y5, y6, y7, y8, y9, y10⟩, z0, z1, z2, z3, z4, z5, z6, z7, z8, z9, z10⟩ := hBz.both
            clear hEn
            refine hK _ _ (keepE hEa) (fun hh => ?_)
            clear hK K hHeld
            have hHeld := hh
            clear hh
            (try simp only [Act.put, List.setIfInBounds_toArray, List.set_cons_zero, List.set_cons_succ])
            (((refine wpAnyH_ready (rs := [17]) (by kernel_rfl) (by simp) ?_); (refine AllReadyH.cons rfl (fun K hK => ?_) AllReadyH.nil); (rw [if_pos (by kernel_rfl)]); go_simp))
            with_reducible refine (HQ4.out _ hEa).mono ?_
            rintro e wn ⟨rfl, hEn⟩
            replace hEa := hEa.trans hEn
            clear y0 y1 y2 y3 y4 y5 y6 y7 y8 y9 y10 z0 z1 z2 z3 z4 z5 z6 z7 z8 z9 z10
            replace hBz := hBz.e hEn
            obtain ⟨⟨y0, y1, y2, y3, y4, y5, y6, y7, y8, y9, y10⟩, z0, z1, z2, z3, z4, z5, z6, z7, z8, z9, z10⟩ := hBz.both
            clear hEn
            refine hK _ _ (keepE hEa) (fun hh => ?_)
            clear hK K hHeld
            have hHeld := hh
            clear hh
            (try simp only [Act.put, List.setIfInBounds_toArray, List.set_cons_zero, List.set_cons_succ])
            (((refine wpAnyH_take (i := 18) (v := ?_) rfl (by kernel_rfl) (by kernel_rfl) (by kernel_rfl) (fun _ _ _ h => h) (Or.inl ⟨by kernel_rfl, ?_⟩) (by assumption) ?_); rotate_left 1; (focus (intro w hSw; (try dsimp only at hSw); go_simp; (try with_reducible rfl))); (try simp only [Act.put, List.setIfInBounds_toArray, List.set_cons_zero, List.set_cons_succ])))
            (((refine wpAnyH_ready (rs := [22]) (by kernel_rfl) (by simp) ?_); (refine AllReadyH.cons rfl (fun K hK => ?_) AllReadyH.nil); (rw [if_pos (by kernel_rfl)]); go_simp))
            with_reducible refine (HQ5.out _ hEa).mono ?_
            rintro e wn ⟨rfl, hEn⟩
            replace hEa := hEa.trans hEn
            clear y0 y1 y2 y3 y4 y5 y6 y7 y8 y9 y10 z0 z1 z2 z3 z4 z5 z6 z7 z8 z9 z10
            replace hBz := hBz.e hEn
            obtain ⟨⟨y0, y1, y2, y3, y4, y5, y6, y7, y8, y9, y10⟩, z0, z1, z2, z3, z4, z5, z6, z7, z8, z9, z10⟩ := hBz.both
            clear hEn
            refine hK _ _ (keepE hEa) (fun hh => ?_)
            clear hK K hHeld
            have hHeld := hh
            clear hh
            (try simp only [Act.put, List.setIfInBounds_toArray, List.set_cons_zero, List.set_cons_succ])
            (((refine wpAnyH_ready (rs := [26]) (by kernel_rfl) (by simp) ?_); (refine AllReadyH.cons rfl (fun K hK => ?_) AllReadyH.nil); (rw [if_pos (by kernel_rfl)]); go_simp))
            with_reducible refine (HQ6.out _ hEa).mono ?_
            rintro e wn ⟨rfl, hEn⟩
            replace hEa := hEa.trans hEn
            clear y0 y1 y2 y3 y4 y5 y6 y7 y8 y9 y10 z0 z1 z2 z3 z4 z5 z6 z7 z8 z9 z10
            replace hBz := hBz.e hEn
            obtain ⟨⟨y0, y1, y2, y3, y4, y5, y6, y7, y8, y9, y10⟩, z0, z1, z2, z3, z4, z5, z6, z7, z8, z9, z10⟩ := hBz.both
            clear hEn
            refine hK _ _ (keepE hEa) (fun hh => ?_)
            clear hK K hHeld
            have hHeld := hh
            clear hh
            (try simp only [Act.put, List.setIfInBounds_toArray, List.set_cons_zero, List.set_cons_succ])
            (((refine wpAnyH_take (i := 27) (v := ?_) rfl (by kernel_rfl) (by kernel_rfl) (by kernel_rfl) (fun _ _ _ h => h) (Or.inl ⟨by kernel_rfl, ?_⟩) (by assumption) ?_); rotate_left 1; (focus (intro w hSw; (try dsimp only at hSw); go_simp; (try with_reducible rfl))); (try simp only [Act.put, List.setIfInBounds_toArray, List.set_cons_zero, List.set_cons_succ])); ((refine wpAnyH_take (i := 28) (v := ?_) rfl (by kernel_rfl) (by kernel_rfl) (by kernel_rfl) (fun _ _ _ h => h) (Or.inl ⟨by kernel_rfl, ?_⟩) (by assumption) ?_); rotate_left 1; (focus (intro w hSw; (try dsimp only at hSw); go_simp; (try with_reducible rfl))); (try simp only [Act.put, List.setIfInBounds_toArray, List.set_cons_zero, List.set_cons_succ])))
            (((refine wpAnyH_ready (rs := [30]) (by kernel_rfl) (by simp) ?_); (refine AllReadyH.cons rfl (fun K hK => ?_) AllReadyH.nil); (rw [if_pos (by kernel_rfl)]); go_simp))
            have hfin := hBz.putAll f0 zS zS
            have hEf := hEa.set11 hzB 0 f0 zS zS
            rw [hf0] at hfin hEf
            simp only [Nat.zero_add, zS] at hfin hEf
            rw [← hf0] at hfin
            refine hK _ _ (keepE hEf) (fun hh => ?_)
            clear hK K hHeld hh
            (try simp only [Act.put, List.setIfInBounds_toArray, List.set_cons_zero, List.set_cons_succ])
            refine wpAnyH_done (by kernel_rfl) ?_ _
            go_simp
            go_wp2_with fail
            go_meet
            exact ⟨_, rfl, hzB, hfin, hEf⟩
        · rw [if_pos (by kernel_rfl)]
          go_simp
          refine hK _ _ (keepE (hEa.alloc _)) (fun hh => ?_)
          obtain ⟨wm, hwm⟩ : ∃ wm, (wa.alloc (.cells #[.int .i64 0, .int .i64 0, .int .i64 0, .int .i64 0, .int .i64 0, .int .i64 0, .int .i64 0, .int .i64 0, .int .i64 0, .slice none 0 0, .slice none 0 0] 47)).drew = wm := ⟨_, rfl⟩
          have hBz : FlBox wm (wa.heap.size) zeroFl zS zS := by rw [← hwm]; exact FlBox.new wa zeroFl zS zS
          have hzB : wa.heap.size ≤ wa.heap.size := hEa.le
          replace hEa : E wa wm := by rw [← hwm]; exact ((E.refl wa).alloc _).drew
          clear hK K hHeld hh
          have hHeld := keepE hEa
          (try simp only [Act.put, List.setIfInBounds_toArray, List.set_cons_zero, List.set_cons_succ])
          try rw [hwm]
          clear hwm
          obtain ⟨⟨y0, y1, y2, y3, y4, y5, y6, y7, y8, y9, y10⟩, z0, z1, z2, z3, z4, z5, z6, z7, z8, z9, z10⟩ := hBz.both
          (((refine wpAnyH_ready (rs := [7]) (by kernel_rfl) (by simp) ?_); (refine AllReadyH.cons rfl (fun K hK => ?_) AllReadyH.nil); (rw [if_pos (by kernel_rfl)]); go_simp))
          with_reducible refine (HQ1.out _ hEa).mono ?_
          rintro e wn ⟨rfl, hEn⟩
          replace hEa := hEa.trans hEn
          clear y0 y1 y2 y3 y4 y5 y6 y7 y8 y9 y10 z0 z1 z2 z3 z4 z5 z6 z7 z8 z9 z10
          replace hBz := hBz.e hEn
          obtain ⟨⟨y0, y1, y2, y3, y4, y5, y6, y7, y8, y9, y10⟩, z0, z1, z2, z3, z4, z5, z6, z7, z8, z9, z10⟩ := hBz.both
          clear hEn
          refine hK _ _ (keepE hEa) (fun hh => ?_)
          clear hK K hHeld
          have hHeld := hh
          clear hh
          (try simp only [Act.put, List.setIfInBounds_toArray, List.set_cons_zero, List.set_cons_succ])
          (((refine wpAnyH_ready (rs := [11]) (by kernel_rfl) (by simp) ?_); (refine AllReadyH.cons rfl (fun K hK => ?_) AllReadyH.nil); (rw [if_pos (by kernel_rfl)]); go_simp))
          with_reducible refine (HQ2.out _ hEa).mono ?_
          rintro e wn ⟨rfl, hEn⟩
          replace hEa := hEa.trans hEn
          clear y0 y1 y2 y3 y4 y5 y6 y7 y8 y9 y10 z0 z1 z2 z3 z4 z5 z6 z7 z8 z9 z10
          replace hBz := hBz.e hEn
          obtain ⟨⟨y0, y1, y2, y3, y4, y5, y6, y7, y8, y9, y10⟩, z0, z1, z2, z3, z4, z5, z6, z7, z8, z9, z10⟩ := hBz.both
          clear hEn
          refine hK _ _ (keepE hEa) (fun hh => ?_)
          clear hK K hHeld
          have hHeld := hh
          clear hh
          (try simp only [Act.put, List.setIfInBounds_toArray, List.set_cons_zero, List.set_cons_succ])
          (((refine wpAnyH_ready (rs := [14]) (by kernel_rfl) (by simp) ?_); (refine AllReadyH.cons rfl (fun K hK => ?_) AllReadyH.nil); (rw [if_pos (by kernel_rfl)]); go_simp))
          with_reducible refine (HQ3.out _ hEa).mono ?_
          rintro e wn ⟨rfl, hEn⟩
          replace hEa := hEa.trans hEn
          clear y0 y1 y2 y3 y4 y5 y6 y7 y8 y9 y10 z0 z1 z2 z3 z4 z5 z6 z7 z8 z9 z10
          replace hBz := hBz.e hEn
          obtain ⟨⟨y0, y1, y2, y3, y4, y5, y6, y7, y8, y9, y10⟩, z0, z1, z2, z3, z4, z5, z6, z7, z8, z9, z10⟩ := hBz.both
          clear hEn
          refine hK _ _ (keepE hEa) (fun hh => ?_)
          clear hK K hHeld
          have hHeld := hh
          clear hh
          (try simp only [Act.put, List.setIfInBounds_toArray, List.set_cons_zero, List.set_cons_succ])
          (((refine wpAnyH_ready (rs := [17]) (by kernel_rfl) (by simp) ?_); (refine AllReadyH.cons rfl (fun K hK => ?_) AllReadyH.nil); (rw [if_pos (by kernel_rfl)]); go_simp))
          with_reducible refine (HQ4.out _ hEa).mono ?_
          rintro e wn ⟨rfl, hEn⟩
          replace hEa := hEa.trans hEn
          clear y0 y1 y2 y3 y4 y5 y6 y7 y8 y9 y10 z0 z1 z2 z3 z4 z5 z6 z7 z8 z9 z10
          replace hBz := hBz.e hEn
          obtain ⟨⟨y0, y1, y2, y3, y4, y5, y6, y7, y8, y9, y10⟩, z0, z1, z2, z3, z4, z5, z6, z7, z8, z9, z10⟩ := hBz.both
          clear hEn
          refine hK _ _ (keepE hEa) (fun hh => ?_)
          clear hK K hHeld
          have hHeld := hh
          clear hh
          (try simp only [Act.put, List.setIfInBounds_toArray, List.set_cons_zero, List.set_cons_succ])
          (((refine wpAnyH_take (i := 18) (v := ?_) rfl (by kernel_rfl) (by kernel_rfl) (by kernel_rfl) (fun _ _ _ h => h) (Or.inl ⟨by kernel_rfl, ?_⟩) (by assumption) ?_); rotate_left 1; (focus (intro w hSw; (try dsimp only at hSw); go_simp; (try with_reducible rfl))); (try simp only [Act.put, List.setIfInBounds_toArray, List.set_cons_zero, List.set_cons_succ])))
          (((refine wpAnyH_ready (rs := [22]) (by kernel_rfl) (by simp) ?_); (refine AllReadyH.cons rfl (fun K hK => ?_) AllReadyH.nil); (rw [if_pos (by kernel_rfl)]); go_simp))
          with_reducible refine (HQ5.out _ hEa).mono ?_
          rintro e wn ⟨rfl, hEn⟩
          replace hEa := hEa.trans hEn
          clear y0 y1 y2 y3 y4 y5 y6 y7 y8 y9 y10 z0 z1 z2 z3 z4 z5 z6 z7 z8 z9 z10
          replace hBz := hBz.e hEn
          obtain ⟨⟨y0, y1, y2, y3, y4, y5, y6, y7, y8, y9, y10⟩, z0, z1, z2, z3, z4, z5, z6, z7, z8, z9, z10⟩ := hBz.both
          clear hEn
          refine hK _ _ (keepE hEa) (fun hh => ?_)
          clear hK K hHeld
          have hHeld := hh
          clear hh
          (try simp only [Act.put, List.setIfInBounds_toArray, List.set_cons_zero, List.set_cons_succ])
          (((refine wpAnyH_ready (rs := [26]) (by kernel_rfl) (by simp) ?_); (refine AllReadyH.cons rfl (fun K hK => ?_) AllReadyH.nil); (rw [if_pos (by kernel_rfl)]); go_simp))
          with_reducible refine (HQ6.out _ hEa).mono ?_
          rintro e wn ⟨rfl, hEn⟩
          replace hEa := hEa.trans hEn
          clear y0 y1 y2 y3 y4 y5 y6 y7 y8 y9 y10 z0 z1 z2 z3 z4 z5 z6 z7 z8 z9 z10
          replace hBz := hBz.e hEn
          obtain ⟨⟨y0, y1, y2, y3, y4, y5, y6, y7, y8, y9, y10⟩, z0, z1, z2, z3, z4, z5, z6, z7, z8, z9, z10⟩ := hBz.both
          clear hEn
          refine hK _ _ (keepE hEa) (fun hh => ?_)
          clear hK K hHeld
          have hHeld := hh
          clear hh
          (try simp only [Act.put, List.setIfInBounds_toArray, List.set_cons_zero, List.set_cons_succ])
          (((refine wpAnyH_take (i := 27) (v := ?_) rfl (by kernel_rfl) (by kernel_rfl) (by kernel_rfl) (fun _ _ _ h => h) (Or.inl ⟨by kernel_rfl, ?_⟩) (by assumption) ?_); rotate_left 1; (focus (intro w hSw; (try dsimp only at hSw); go_simp; (try with_reducible rfl))); (try simp only [Act.put, List.setIfInBounds_toArray, List.set_cons_zero, List.set_cons_succ])); ((refine wpAnyH_take (i := 28) (v := ?_) rfl (by kernel_rfl) (by kernel_rfl) (by kernel_rfl) (fun _ _ _ h => h) (Or.inl ⟨by kernel_rfl, ?_⟩) (by assumption) ?_); rotate_left 1; (focus (intro w hSw; (try dsimp only at hSw); go_simp; (try with_reducible rfl))); (try simp only [Act.put, List.setIfInBounds_toArray, List.set_cons_zero, List.set_cons_succ])))
          (((refine wpAnyH_ready (rs := [30]) (by kernel_rfl) (by simp) ?_); (refine AllReadyH.cons rfl (fun K hK => ?_) AllReadyH.nil); (rw [if_pos (by kernel_rfl)]); go_simp))
          have hfin := hBz.putAll f0 zS zS
          have hEf := hEa.set11 hzB 0 f0 zS zS
          rw [hf0] at hfin hEf
          simp only [Nat.zero_add, zS] at hfin hEf
          rw [← hf0] at hfin
          refine hK _ _ (keepE hEf) (fun hh => ?_)
          clear hK K hHeld hh
          (try simp only [Act.put, List.setIfInBounds_toArray, List.set_cons_zero, List.set_cons_succ])
          refine wpAnyH_done (by kernel_rfl) ?_ _
          go_simp
          go_wp2_with fail
          go_meet
          exact ⟨_, rfl, hzB, hfin, hEf⟩
        -- R7 end
      case rest =>
        obtain ⟨B, rfl, hB, hBx, hEB⟩ := hcut
        have hid0 : f0.id = idv := by rw [hf0]
        have hit0 : f0.item = v5 := by rw [hf0]
        have hn0 : f0.n = 1 + v6 := by rw [hf0]
        have hp0 : f0.parts = [] := by rw [hf0]
        have hwf0 : WfF f0 := by
          have hi := ids_wf HID.out
          rw [hf0]
          refine ⟨?_, ?_, ?_, ?_, ?_, ?_, ?_, ?_, ?_⟩ <;> exact wf_of_i64 (by simp only; omega) (by simp only; omega)
        have HF0 := Lib.hid (And.intro hid0 (And.intro hit0 (And.intro hn0 (And.intro hp0 hwf0))))
        have HV := Lib.hid (show (0 ≤ v5 ∧ v5 < 2) ∧ 0 ≤ v6 ∧ v6 < 9 by omega)
        obtain ⟨wb, hwb, _⟩ : ∃ W, W = _ ∧ E wa W := ⟨_, rfl, hEB⟩
        subst hwb
        have HEB := Lib.hid hEB
        have HBX := Lib.hid hBx
        have HB := Lib.hid hB
        have HFA := Lib.hid hFa
        have HG := Lib.hid hG
        obtain ⟨fs, hfs⟩ : ∃ fs, q.map Prod.fst = fs := ⟨_, rfl⟩
        have HFS := Lib.hid hfs
        have hfl : fs.length = i := by rw [← hfs, List.length_map, hFa.1]
        have HFL := Lib.hid hfl
        have HGF := Lib.hid (show GenG fs i by rw [← hfs]; exact hG.out)
        have HIDS := Lib.hid (show Ids fs by rw [← hfs]; exact hG.out.ok.ids)
        have HOKF := Lib.hid (show GOk fs by rw [← hfs]; exact hG.out.ok)
        have HBW := Lib.hid hBx.lt
        clear hid0 hit0 hn0 hp0 hwf0 hf0 hEB hBx hB hFa hG hfs hfl r1 r2 r3 r4 r5 r6 hwa hwb hwc hwd HQ1 HQ2 HQ3 HQ4 HQ5 HQ6 hcid
        go_wp2_with fail
        go_loopw [8, 9] (fun t8 t9 wr => ∃ (k np cp nm cm : Nat) (Ap Am : Option Addr) (P : List Lt) (M : List Int), k ≤ i ∧ t9 = .int .i64 k ∧ t8 = .slice Ap np cp ∧ GmI wa wr B f0 Ap np cp P Am nm cm M ∧ Hid (PartG fs f0.item k P M)) (fun _ t9 _ => i - (intOf t9).toNat)
        case atStart => exact ⟨0, 0, 0, 0, 0, none, none, [], [], Nat.zero_le _, rfl, rfl, ⟨OwnL.nil _ _, Own.nil _ _ _ _, (fun b h => by cases h), HBX.out, HEB.out, HB.out⟩, PartG.start _ _⟩
        case round =>
          obtain ⟨k, np, cp, nm, cm, Ap, Am, P, M, hk, rfl, rfl, hI, hPG⟩ := hrel
          by_cases hkl : k < i
          · have hkI : (k : Int) < (i : Int) := by omega
            have hk0 : (0 : Int) ≤ (k : Int) := by omega
            have hk8 : (k : Int) ≤ 8 := by omega
            have HP := Lib.hid (HQ.out (aN + 3 + k) 100 wr hI.e (by omega) (by omega) (by omega))
            rw [show ((aN + 3 + k : Nat) : Int) = (aN : Int) + 3 + (k : Int) by omega] at HP
            have rn := pk_range l (aN + 3 + k) (m := 100) (by omega)
            generalize pk l (aN + 3 + k) 100 = vn at *
            have HI0 := Lib.hid hI
            clear hI
            have hwe : IntKind.i64.wrap ((aN : Int) + 3) = (aN : Int) + 3 := by rw [IntKind.wrap_i64]; omega
            have hwf : IntKind.i64.wrap ((aN : Int) + 3 + (k : Int)) = (aN : Int) + 3 + (k : Int) := by rw [IntKind.wrap_i64]; omega
            go_upto_region 13 with (go_at_call 37; refine HP.out.mono ?_; rintro e wn ⟨rfl, hEn⟩)
            clear hwe hwf
            have hI := HI0.out.e_ hEn
            have HR := Lib.hid (HFA.out.e hI.e)
            obtain ⟨bq, oq, fq, sq, tq, hAe, hbq, hfk, hwq, hcq, _⟩ := HR.out.flows.get hkl
            rw [HFS.out] at hfk
            have HFK := Lib.hid hfk
            have HWI := Lib.hid hwq.1
            have hokq := okF_iff.1 (HOKF.out.ok fq (List.mem_of_getElem? hfk))
            have HC := Lib.hid (fun W (hE : E wa W) => show W.cell? ⟨bq, oq + k * 11, none⟩ = some (.int .i64 fq.id) ∧ W.cell? ⟨bq, oq + k * 11 + 8, none⟩ = some (.int .i64 fq.n) ∧ W.cell? ⟨bq, oq + k * 11 + 7, none⟩ = some (.int .i64 fq.item) from row_cells (HFA.out.e hE) hkl hAe (by rw [HFS.out]; exact HFK.out))
            obtain ⟨fqid, hfqid⟩ : ∃ v, fq.id = v := ⟨_, rfl⟩
            obtain ⟨fqn, hfqn⟩ : ∃ v, fq.n = v := ⟨_, rfl⟩
            obtain ⟨fqi, hfqi⟩ : ∃ v, fq.item = v := ⟨_, rfl⟩
            simp only [hfqid, hfqn, hfqi] at HC hokq HWI
            obtain ⟨_, hid1, _, hqn1, hqn2, _⟩ := hokq
            have HFQ := Lib.hid (And.intro hfqid (And.intro hfqn hfqi))
            have HML := Lib.hid (show nm = M.length ∧ M.length ≤ k from ⟨hI.om.1.symm, hPG.out.ml⟩)
            have HPL := Lib.hid (show np = P.length ∧ P.length ≤ k from ⟨hI.op.1.symm, hPG.out.pl⟩)
            obtain ⟨x0, x8, x7⟩ := HC.out wn hI.e
            obtain ⟨⟨_, _, _, _, _, _, _, y7, _, _, _⟩, _⟩ := hI.bx.both
            have hbq2 := Nat.lt_of_lt_of_le hbq (Nat.le_refl _)
            have hcap := HR.out.flows.cap
            have hc63 := HR.out.flows.mx
            unfold maxLen at hc63
            clear hfk hwq hcq hfqid hfqn hfqi hEn hbq
            subst hAe
            obtain ⟨it0, hit0⟩ : ∃ v, f0.item = v := ⟨_, rfl⟩
            rw [hit0] at y7 hPG
            have HIT := Lib.hid hit0
            clear hit0
            by_cases he : fqi = it0
            · subst he
              by_cases h3 : vn.tmod 3 = 0
              · have d3 : (vn.tmod 3 == 0) = true := by simpa using h3
                have hr1 : 0 ≤ vn.tmod fqn ∧ vn.tmod fqn < fqn := by rw [Int.tmod_eq_emod_of_nonneg (by omega)]; exact ⟨Int.emod_nonneg _ (by omega), Int.emod_lt_of_pos _ (by omega)⟩
                have hr2 : 0 ≤ vn.tdiv 3 ∧ vn.tdiv 3 ≤ 99 := by rw [Int.tdiv_eq_ediv_of_nonneg (by omega)]; omega
                obtain ⟨fr, hfr⟩ : ∃ fr, vn.tmod fqn = fr := ⟨_, rfl⟩
                obtain ⟨dv, hdv⟩ : ∃ dv, vn.tdiv 3 = dv := ⟨_, rfl⟩
                rw [hfr] at hr1
                rw [hdv] at hr2
                have hr3 : 0 ≤ dv.tmod (fqn - fr) ∧ dv.tmod (fqn - fr) < fqn - fr := by rw [Int.tmod_eq_emod_of_nonneg (by omega)]; exact ⟨Int.emod_nonneg _ (by omega), Int.emod_lt_of_pos _ (by omega)⟩
                obtain ⟨rr, hrr⟩ : ∃ rr, dv.tmod (fqn - fr) = rr := ⟨_, rfl⟩
                rw [hrr] at hr3
                have hwd : IntKind.i64.wrap dv = dv := by rw [IntKind.wrap_i64]; omega
                have hws1 : IntKind.i64.wrap (fqn - fr) = fqn - fr := by rw [IntKind.wrap_i64]; omega
                have hwp : IntKind.i64.wrap (1 + rr) = 1 + rr := by rw [IntKind.wrap_i64]; omega
                have z1 : (fqn == 0) = false := by simp; omega
                have z2 : (fqn == -1) = false := by simp; omega
                have z3 : (fqn - fr == 0) = false := by simp; omega
                have z4 : (fqn - fr == -1) = false := by simp; omega
                have n1 : ¬ fqn = 0 := by omega
                have n3 : ¬ fqn - fr = 0 := by omega
                (refine wp_region_quiet_lit (by kernel_rfl) (by kernel_rfl) ?_; (repeat (first | ((with_reducible refine wpQuiet_step (fun K hK => ?_)); go_simp; (with_reducible refine hK _ ?_); clear hK K) | ((with_reducible refine wpQuiet_off (by kernel_rfl) (fun K hK => ?_)); go_simp; (with_reducible refine hK _ ?_); clear hK K))); (with_reducible refine wpQuiet_nil ?_); intro _ hw'; obtain ⟨nq, hw''⟩ := hw'; subst hw'')
                go_upto_region 14 with fail
                have hIn := hI.e_ ((E.refl wn).drewN nq)
                obtain ⟨wp, hwp2⟩ : ∃ wp, wn.drewN nq = wp := ⟨_, rfl⟩
                rw [hwp2] at hIn ⊢
                clear x0 x8 x7 y7 hI
                obtain ⟨x0, x8, x7⟩ := HC.out wp hIn.e
                go_upto_region 15 with fail
                obtain ⟨V5, hV5⟩ : ∃ V, wp.drew.alloc (.cells #[.int .i64 fqid, .int .i64 fr, .int .i64 (1 + rr)] 32) = V := ⟨_, rfl⟩
                have hEV : E wp V5 := by rw [← hV5]; exact (E.refl wp).drew.alloc _
                have hwl : WfL (fqid, fr, 1 + rr) := ⟨HWI.out, wf_of_i64 (by simp only; omega) (by simp only; omega), wf_of_i64 (by simp only; omega) (by simp only; omega)⟩
                have hL5 : LotsAt V5 (some ⟨wp.heap.size, 0, none⟩) 1 1 [(fqid, fr, 1 + rr)] := by rw [← hV5]; exact lot_new (w := wp.drew) hwl
                obtain ⟨A8, c8, W8, hrun5, hI8⟩ := hIn.part hEV _ _ hL5 (by have := HPL.out; omega) 29
                have HI := Lib.hid hI8
                have HPG := Lib.hid (show PartG fs f0.item (k + 1) (P ++ [(fqid, fr, 1 + rr)]) M by
                  rw [HIT.out]
                  obtain ⟨e1, e2, e3⟩ := HFQ.out
                  exact hPG.out.put HIDS.out HFK.out e3 (x := (fqid, fr, 1 + rr)) (by rw [e1]) (by simp only; omega) (by simp only; omega) (by rw [e2]; simp only; omega))
                have s0 := HC.out wp.drew (hIn.e.drew)
                have s1 := HC.out V5 (hIn.e.trans hEV)
                have s2 := HC.out W8 hI8.e
                clear hI8 hIn hEV hL5 hwl x0 x8 x7
                refine wp_region_held_drew (S := (fun W => W.cell? ⟨bq, oq + k * 11, none⟩ = some (.int .i64 fqid) ∧ W.cell? ⟨bq, oq + k * 11 + 8, none⟩ = some (.int .i64 fqn) ∧ W.cell? ⟨bq, oq + k * 11 + 7, none⟩ = some (.int .i64 fqi))) (by kernel_rfl) s0 (fun hHeld => ?_)
                (((refine wpAnyH_take (i := 0) (v := ?_) rfl (by kernel_rfl) (by kernel_rfl) (by kernel_rfl) (fun _ _ _ h => h) (Or.inl ⟨by kernel_rfl, ?_⟩) (by assumption) ?_); rotate_left 1; (focus (intro w hSw; (try dsimp only at hSw); go_simp; (try with_reducible rfl))); (try simp only [Act.put, List.setIfInBounds_toArray, List.set_cons_zero, List.set_cons_succ])); ((refine wpAnyH_take (i := 1) (v := ?_) rfl (by kernel_rfl) (by kernel_rfl) (by kernel_rfl) (fun _ _ _ h => h) (Or.inl ⟨by kernel_rfl, ?_⟩) (by assumption) ?_); rotate_left 1; (focus (intro w hSw; (try dsimp only at hSw); go_simp; (try with_reducible rfl))); (try simp only [Act.put, List.setIfInBounds_toArray, List.set_cons_zero, List.set_cons_succ])); ((refine wpAnyH_take (i := 2) (v := ?_) rfl (by kernel_rfl) (by kernel_rfl) (by kernel_rfl) (fun _ _ _ h => h) (Or.inl ⟨by kernel_rfl, ?_⟩) (by assumption) ?_); rotate_left 1; (focus (intro w hSw; (try dsimp only at hSw); go_simp; (try with_reducible rfl))); (try simp only [Act.put, List.setIfInBounds_toArray, List.set_cons_zero, List.set_cons_succ])); ((refine wpAnyH_take (i := 3) (v := ?_) rfl (by kernel_rfl) (by kernel_rfl) (by kernel_rfl) (fun _ _ _ h => h) (Or.inl ⟨by kernel_rfl, ?_⟩) (by assumption) ?_); rotate_left 1; (focus (intro w hSw; (try dsimp only at hSw); go_simp; (try with_reducible rfl))); (try simp only [Act.put, List.setIfInBounds_toArray, List.set_cons_zero, List.set_cons_succ])); ((refine wpAnyH_take (i := 4) (v := ?_) rfl (by kernel_rfl) (by kernel_rfl) (by kernel_rfl) (fun _ _ _ h => h) (Or.inl ⟨by kernel_rfl, ?_⟩) (by assumption) ?_); rotate_left 1; (focus (intro w hSw; (try dsimp only at hSw); go_simp; (try with_reducible rfl))); (try simp only [Act.put, List.setIfInBounds_toArray, List.set_cons_zero, List.set_cons_succ])); ((refine wpAnyH_take (i := 5) (v := ?_) rfl (by kernel_rfl) (by kernel_rfl) (by kernel_rfl) (fun _ _ _ h => h) (Or.inl ⟨by kernel_rfl, ?_⟩) (by assumption) ?_); rotate_left 1; (focus (intro w hSw; (try dsimp only at hSw); go_simp; (try with_reducible rfl))); (try simp only [Act.put, List.setIfInBounds_toArray, List.set_cons_zero, List.set_cons_succ])); ((refine wpAnyH_take (i := 6) (v := ?_) rfl (by kernel_rfl) (by kernel_rfl) (by kernel_rfl) (fun _ _ _ h => h) (Or.inl ⟨by kernel_rfl, ?_⟩) (by assumption) ?_); rotate_left 1; (focus (intro w hSw; (try dsimp only at hSw); go_simp; (try with_reducible rfl))); (try simp only [Act.put, List.setIfInBounds_toArray, List.set_cons_zero, List.set_cons_succ])); ((refine wpAnyH_take (i := 7) (v := ?_) rfl (by kernel_rfl) (by kernel_rfl) (by kernel_rfl) (fun _ _ _ h => h) (Or.inl ⟨by kernel_rfl, ?_⟩) (by assumption) ?_); rotate_left 1; (focus (intro w hSw; (try dsimp only at hSw); go_simp; (try with_reducible rfl))); (try simp only [Act.put, List.setIfInBounds_toArray, List.set_cons_zero, List.set_cons_succ])); ((refine wpAnyH_take (i := 8) (v := ?_) rfl (by kernel_rfl) (by kernel_rfl) (by kernel_rfl) (fun _ _ _ h => h) (Or.inl ⟨by kernel_rfl, ?_⟩) (by assumption) ?_); rotate_left 1; (focus (intro w hSw; (try dsimp only at hSw); go_simp; (try with_reducible rfl))); (try simp only [Act.put, List.setIfInBounds_toArray, List.set_cons_zero, List.set_cons_succ])); ((refine wpAnyH_take (i := 9) (v := ?_) rfl (by kernel_rfl) (by kernel_rfl) (by kernel_rfl) (fun _ _ _ h => h) (Or.inl ⟨by kernel_rfl, ?_⟩) (by assumption) ?_); rotate_left 1; (focus (intro w hSw; (try dsimp only at hSw); go_simp; (try with_reducible rfl))); (try simp only [Act.put, List.setIfInBounds_toArray, List.set_cons_zero, List.set_cons_succ])); ((refine wpAnyH_take (i := 10) (v := ?_) rfl (by kernel_rfl) (by kernel_rfl) (by kernel_rfl) (fun _ _ _ h => h) (Or.inl ⟨by kernel_rfl, ?_⟩) (by assumption) ?_); rotate_left 1; (focus (intro w hSw; (try dsimp only at hSw); go_simp; (try with_reducible rfl))); (try simp only [Act.put, List.setIfInBounds_toArray, List.set_cons_zero, List.set_cons_succ])); ((refine wpAnyH_take (i := 11) (v := ?_) rfl (by kernel_rfl) (by kernel_rfl) (by kernel_rfl) (fun _ _ _ h => h) (Or.inl ⟨by kernel_rfl, ?_⟩) (by assumption) ?_); rotate_left 1; (focus (intro w hSw; (try dsimp only at hSw); go_simp; (try with_reducible rfl))); (try simp only [Act.put, List.setIfInBounds_toArray, List.set_cons_zero, List.set_cons_succ])); ((refine wpAnyH_take (i := 12) (v := ?_) rfl (by kernel_rfl) (by kernel_rfl) (by kernel_rfl) (fun _ _ _ h => h) (Or.inl ⟨by kernel_rfl, ?_⟩) (by assumption) ?_); rotate_left 1; (focus (intro w hSw; (try dsimp only at hSw); go_simp; (try with_reducible rfl))); (try simp only [Act.put, List.setIfInBounds_toArray, List.set_cons_zero, List.set_cons_succ])); ((refine wpAnyH_take (i := 13) (v := ?_) rfl (by kernel_rfl) (by kernel_rfl) (by kernel_rfl) (fun _ _ _ h => h) (Or.inl ⟨by kernel_rfl, ?_⟩) (by assumption) ?_); rotate_left 1; (focus (intro w hSw; (try dsimp only at hSw); go_simp; (try with_reducible rfl))); (try simp only [Act.put, List.setIfInBounds_toArray, List.set_cons_zero, List.set_cons_succ])); ((refine wpAnyH_take (i := 14) (v := ?_) rfl (by kernel_rfl) (by kernel_rfl) (by kernel_rfl) (fun _ _ _ h => h) (Or.inl ⟨by kernel_rfl, ?_⟩) (by assumption) ?_); rotate_left 1; (focus (intro w hSw; (try dsimp only at hSw); go_simp; (try with_reducible rfl))); (try simp only [Act.put, List.setIfInBounds_toArray, List.set_cons_zero, List.set_cons_succ])); ((refine wpAnyH_take (i := 15) (v := ?_) rfl (by kernel_rfl) (by kernel_rfl) (by kernel_rfl) (fun _ _ _ h => h) (Or.inl ⟨by kernel_rfl, ?_⟩) (by assumption) ?_); rotate_left 1; (focus (intro w hSw; (try dsimp only at hSw); go_simp; (try with_reducible rfl))); (try simp only [Act.put, List.setIfInBounds_toArray, List.set_cons_zero, List.set_cons_succ])); ((refine wpAnyH_take (i := 16) (v := ?_) rfl (by kernel_rfl) (by kernel_rfl) (by kernel_rfl) (fun _ _ _ h => h) (Or.inl ⟨by kernel_rfl, ?_⟩) (by assumption) ?_); rotate_left 1; (focus (intro w hSw; (try dsimp only at hSw); go_simp; (try with_reducible rfl))); (try simp only [Act.put, List.setIfInBounds_toArray, List.set_cons_zero, List.set_cons_succ])); ((refine wpAnyH_take (i := 17) (v := ?_) rfl (by kernel_rfl) (by kernel_rfl) (by kernel_rfl) (fun _ _ _ h => h) (Or.inl ⟨by kernel_rfl, ?_⟩) (by assumption) ?_); rotate_left 1; (focus (intro w hSw; (try dsimp only at hSw); go_simp; (try with_reducible rfl))); (try simp only [Act.put, List.setIfInBounds_toArray, List.set_cons_zero, List.set_cons_succ])); ((refine wpAnyH_take (i := 18) (v := ?_) rfl (by kernel_rfl) (by kernel_rfl) (by kernel_rfl) (fun _ _ _ h => h) (Or.inl ⟨by kernel_rfl, ?_⟩) (by assumption) ?_); rotate_left 1; (focus (intro w hSw; (try dsimp only at hSw); go_simp; (try with_reducible rfl))); (try simp only [Act.put, List.setIfInBounds_toArray, List.set_cons_zero, List.set_cons_succ])))
                clear hHeld
                (((refine wpAnyH_ready (rs := [19]) (by kernel_rfl) (by simp) ?_); (refine AllReadyH.cons rfl (fun K hK => ?_) AllReadyH.nil); (rw [if_pos (by kernel_rfl)]); go_simp))
                (try rw [hV5])
                refine hK _ _ s1 (fun hh => ?_)
                clear hK K hh
                (try simp only [Act.put, List.setIfInBounds_toArray, List.set_cons_zero, List.set_cons_succ])
                refine wpAnyH_ready (rs := [20]) (by kernel_rfl) (by simp) ?_
                refine AllReadyH.cons rfl (fun K hK => ?_) AllReadyH.nil
                refine step_app_runQ (by rfl) _ _ (by rfl) (by rfl) (by rfl) hrun5 ?_
                refine hK _ _ s2 (fun hh => ?_)
                clear hK K
                (try simp only [Act.put, List.setIfInBounds_toArray, List.set_cons_zero, List.set_cons_succ])
                (((refine wpAnyH_take (i := 21) (v := ?_) rfl (by kernel_rfl) (by kernel_rfl) (by kernel_rfl) (fun _ _ _ h => h) (Or.inl ⟨by kernel_rfl, ?_⟩) (by assumption) ?_); rotate_left 1; (focus (intro w hSw; (try dsimp only at hSw); go_simp; (try with_reducible rfl))); (try simp only [Act.put, List.setIfInBounds_toArray, List.set_cons_zero, List.set_cons_succ])))
                refine wpAnyH_done (by kernel_rfl) ?_ _
                go_simp
                obtain ⟨ws, hws⟩ : ∃ ws, ws = W8 := ⟨_, rfl⟩
                subst hws
                clear hh s0 s1 s2 hrun5 hV5 z1 z2 z3 z4 n1 n3 hwd hws1 hwp hrr hfr hdv hr1 hr2 hr3 hwp2
                by_cases h7 : vn.tmod 7 = 1
                · have d7 : (vn.tmod 7 == 1) = true := by simpa using h7
                  obtain ⟨V7, hV7⟩ : ∃ V, ws.drew.alloc (.cells #[.int .i64 fqid] 3) = V := ⟨_, rfl⟩
                  have hEV : E ws V7 := by rw [← hV7]; exact (E.refl ws).drew.alloc _
                  have hN7 : Nums .i64 V7 (some ⟨ws.heap.size, 0, none⟩) 1 1 [fqid] := by rw [← hV7]; exact nums_one ws.drew HWI.out
                  obtain ⟨A9, c9, W9, hrun, hb9, hI9⟩ := HI.out.made hEV _ fqid hN7 (by have := HML.out; omega) 22
                  have HI9 := Lib.hid hI9
                  have HPG9 := Lib.hid (show PartG fs f0.item (k + 1) _ (M ++ [fqid]) by rw [← HFQ.out.1]; exact HPG.out.add (by have := HML.out; omega) HIDS.out HFK.out)
                  obtain ⟨⟨_, _, _, _, _, _, _, _, _, _, y10⟩, _⟩ := HI.out.bx.both
                  obtain ⟨⟨_, _, _, _, _, _, _, _, _, _, q10⟩, _⟩ := (HI.out.bx.e hEV).both
                  obtain ⟨⟨_, _, _, _, _, _, _, _, _, _, w10⟩, _, _, _, _, _, _, _, _, _, _, f10⟩ := hb9.both
                  obtain ⟨x0, _, _⟩ := HC.out ws HI.out.e
                  clear hI9 hEV hN7 hb9
                  go_upto_region 17 with fail
                  refine wp_region_any (by kernel_rfl) ?_
                  change wpAny _ _ _ _ _ _ _ (World.drew _)
                  (((refine wpAny_take (i := 0) (v := ?_) rfl (by kernel_rfl) (by kernel_rfl) (by kernel_rfl) (fun _ _ _ h => h) (Or.inl ⟨by kernel_rfl, ?_⟩) ?_); rotate_left 1; (focus (intro w; go_simp; (try with_reducible rfl))); (try simp only [Act.put, List.setIfInBounds_toArray, List.set_cons_zero, List.set_cons_succ])); ((refine wpAny_take (i := 2) (v := ?_) rfl (by kernel_rfl) (by kernel_rfl) (by kernel_rfl) (fun _ _ _ h => h) (Or.inl ⟨by kernel_rfl, ?_⟩) ?_); rotate_left 1; (focus (intro w; go_simp; (try with_reducible rfl))); (try simp only [Act.put, List.setIfInBounds_toArray, List.set_cons_zero, List.set_cons_succ])); ((refine wpAny_take (i := 3) (v := ?_) rfl (by kernel_rfl) (by kernel_rfl) (by kernel_rfl) (fun _ _ _ h => h) (Or.inl ⟨by kernel_rfl, ?_⟩) ?_); rotate_left 1; (focus (intro w; go_simp; (try with_reducible rfl))); (try simp only [Act.put, List.setIfInBounds_toArray, List.set_cons_zero, List.set_cons_succ])); ((refine wpAny_take (i := 4) (v := ?_) rfl (by kernel_rfl) (by kernel_rfl) (by kernel_rfl) (fun _ _ _ h => h) (Or.inl ⟨by kernel_rfl, ?_⟩) ?_); rotate_left 1; (focus (intro w; go_simp; (try with_reducible rfl))); (try simp only [Act.put, List.setIfInBounds_toArray, List.set_cons_zero, List.set_cons_succ])); ((refine wpAny_take (i := 5) (v := ?_) rfl (by kernel_rfl) (by kernel_rfl) (by kernel_rfl) (fun _ _ _ h => h) (Or.inl ⟨by kernel_rfl, ?_⟩) ?_); rotate_left 1; (focus (intro w; go_simp; (try with_reducible rfl))); (try simp only [Act.put, List.setIfInBounds_toArray, List.set_cons_zero, List.set_cons_succ])))
                  refine wpAny_ready (rs := [1, 6]) (by kernel_rfl) (by simp) ?_
                  refine AllReady.cons rfl (fun K hK => ?_) (AllReady.cons rfl (fun K hK => ?_) AllReady.nil)
                  · rw [if_pos (by kernel_rfl)]
                    go_simp
                    refine hK _ _ ?_
                    clear hK K
                    (try simp only [Act.put, List.setIfInBounds_toArray, List.set_cons_zero, List.set_cons_succ])
                    (((refine wpAny_ready (rs := [6]) (by kernel_rfl) (by simp) ?_); (refine AllReady.cons rfl (fun K hK => ?_) AllReady.nil); (rw [if_pos (by kernel_rfl)]); go_simp))
                    refine hK _ _ ?_
                    clear hK K
                    (try simp only [Act.put, List.setIfInBounds_toArray, List.set_cons_zero, List.set_cons_succ])
                    (((refine wpAny_ready (rs := [7]) (by kernel_rfl) (by simp) ?_); (refine AllReady.cons rfl (fun K hK => ?_) AllReady.nil); (rw [if_pos (by kernel_rfl)]); go_simp))
                    (try rw [hV7])
                    refine hK _ _ ?_
                    clear hK K
                    (try simp only [Act.put, List.setIfInBounds_toArray, List.set_cons_zero, List.set_cons_succ])
                    refine wpAny_ready (rs := [8]) (by kernel_rfl) (by simp) ?_
                    refine AllReady.cons rfl (fun K hK => ?_) AllReady.nil
                    refine step_app_runQ (by rfl) _ _ (by rfl) (by rfl) (by rfl) hrun ?_
                    refine hK _ _ ?_
                    clear hK K
                    (try simp only [Act.put, List.setIfInBounds_toArray, List.set_cons_zero, List.set_cons_succ])
                    (((refine wpAny_take (i := 9) (v := ?_) rfl (by kernel_rfl) (by kernel_rfl) (by kernel_rfl) (fun _ _ _ h => h) (Or.inl ⟨by kernel_rfl, ?_⟩) ?_); rotate_left 1; (focus (intro w; go_simp; (try with_reducible rfl))); (try simp only [Act.put, List.setIfInBounds_toArray, List.set_cons_zero, List.set_cons_succ])))
                    (((refine wpAny_ready (rs := [10]) (by kernel_rfl) (by simp) ?_); (refine AllReady.cons rfl (fun K hK => ?_) AllReady.nil); (rw [if_pos (by kernel_rfl)]); go_simp))
                    refine hK _ _ ?_
                    clear hK K
                    (try simp only [Act.put, List.setIfInBounds_toArray, List.set_cons_zero, List.set_cons_succ])
                    refine wpAny_done (by kernel_rfl) ?_ _
                    go_simp
                    clear x0 y10 q10 w10 f10 hrun
                    go_wp2_with fail
                    go_roundw
                    case rel => exact ⟨k + 1, _, _, _, _, _, _, _, _, by omega, by go_num, rfl, HI9.out, HPG9.out⟩
                    case measure => simp [intOf]; omega
                  · rw [if_pos (by kernel_rfl)]
                    go_simp
                    refine hK _ _ ?_
                    clear hK K
                    (try simp only [Act.put, List.setIfInBounds_toArray, List.set_cons_zero, List.set_cons_succ])
                    refine wpAny_ready (rs := [1, 7]) (by kernel_rfl) (by simp) ?_
                    refine AllReady.cons rfl (fun K hK => ?_) (AllReady.cons rfl (fun K hK => ?_) AllReady.nil)
                    · rw [if_pos (by kernel_rfl)]
                      go_simp
                      refine hK _ _ ?_
                      clear hK K
                      (try simp only [Act.put, List.setIfInBounds_toArray, List.set_cons_zero, List.set_cons_succ])
                      (((refine wpAny_ready (rs := [7]) (by kernel_rfl) (by simp) ?_); (refine AllReady.cons rfl (fun K hK => ?_) AllReady.nil); (rw [if_pos (by kernel_rfl)]); go_simp))
                      (try rw [hV7])
                      refine hK _ _ ?_
                      clear hK K
                      (try simp only [Act.put, List.setIfInBounds_toArray, List.set_cons_zero, List.set_cons_succ])
                      refine wpAny_ready (rs := [8]) (by kernel_rfl) (by simp) ?_
                      refine AllReady.cons rfl (fun K hK => ?_) AllReady.nil
                      refine step_app_runQ (by rfl) _ _ (by rfl) (by rfl) (by rfl) hrun ?_
                      refine hK _ _ ?_
                      clear hK K
                      (try simp only [Act.put, List.setIfInBounds_toArray, List.set_cons_zero, List.set_cons_succ])
                      (((refine wpAny_take (i := 9) (v := ?_) rfl (by kernel_rfl) (by kernel_rfl) (by kernel_rfl) (fun _ _ _ h => h) (Or.inl ⟨by kernel_rfl, ?_⟩) ?_); rotate_left 1; (focus (intro w; go_simp; (try with_reducible rfl))); (try simp only [Act.put, List.setIfInBounds_toArray, List.set_cons_zero, List.set_cons_succ])))
                      (((refine wpAny_ready (rs := [10]) (by kernel_rfl) (by simp) ?_); (refine AllReady.cons rfl (fun K hK => ?_) AllReady.nil); (rw [if_pos (by kernel_rfl)]); go_simp))
                      refine hK _ _ ?_
                      clear hK K
                      (try simp only [Act.put, List.setIfInBounds_toArray, List.set_cons_zero, List.set_cons_succ])
                      refine wpAny_done (by kernel_rfl) ?_ _
                      go_simp
                      clear x0 y10 q10 w10 f10 hrun
                      go_wp2_with fail
                      go_roundw
                      case rel => exact ⟨k + 1, _, _, _, _, _, _, _, _, by omega, by go_num, rfl, HI9.out, HPG9.out⟩
                      case measure => simp [intOf]; omega
                    · rw [if_pos (by kernel_rfl)]
                      go_simp
                      (try rw [hV7])
                      refine hK _ _ ?_
                      clear hK K
                      (try simp only [Act.put, List.setIfInBounds_toArray, List.set_cons_zero, List.set_cons_succ])
                      (((refine wpAny_ready (rs := [1]) (by kernel_rfl) (by simp) ?_); (refine AllReady.cons rfl (fun K hK => ?_) AllReady.nil); (rw [if_pos (by kernel_rfl)]); go_simp))
                      refine hK _ _ ?_
                      clear hK K
                      (try simp only [Act.put, List.setIfInBounds_toArray, List.set_cons_zero, List.set_cons_succ])
                      refine wpAny_ready (rs := [8]) (by kernel_rfl) (by simp) ?_
                      refine AllReady.cons rfl (fun K hK => ?_) AllReady.nil
                      refine step_app_runQ (by rfl) _ _ (by rfl) (by rfl) (by rfl) hrun ?_
                      refine hK _ _ ?_
                      clear hK K
                      (try simp only [Act.put, List.setIfInBounds_toArray, List.set_cons_zero, List.set_cons_succ])
                      (((refine wpAny_take (i := 9) (v := ?_) rfl (by kernel_rfl) (by kernel_rfl) (by kernel_rfl) (fun _ _ _ h => h) (Or.inl ⟨by kernel_rfl, ?_⟩) ?_); rotate_left 1; (focus (intro w; go_simp; (try with_reducible rfl))); (try simp only [Act.put, List.setIfInBounds_toArray, List.set_cons_zero, List.set_cons_succ])))
                      (((refine wpAny_ready (rs := [10]) (by kernel_rfl) (by simp) ?_); (refine AllReady.cons rfl (fun K hK => ?_) AllReady.nil); (rw [if_pos (by kernel_rfl)]); go_simp))
                      refine hK _ _ ?_
                      clear hK K
                      (try simp only [Act.put, List.setIfInBounds_toArray, List.set_cons_zero, List.set_cons_succ])
                      refine wpAny_done (by kernel_rfl) ?_ _
                      go_simp
                      clear x0 y10 q10 w10 f10 hrun
                      go_wp2_with fail
                      go_roundw
                      case rel => exact ⟨k + 1, _, _, _, _, _, _, _, _, by omega, by go_num, rfl, HI9.out, HPG9.out⟩
                      case measure => simp [intOf]; omega
                · have d7 : (vn.tmod 7 == 1) = false := by simpa using h7
                  have d8 : (vn % 7 == 1) = false := by rw [Int.tmod_eq_emod_of_nonneg (by omega)] at d7; exact d7
                  go_wp2_with fail
                  go_roundw
                  case rel => exact ⟨k + 1, _, _, _, _, _, _, _, _, by omega, by go_num, rfl, HI.out, HPG.out⟩
                  case measure => simp [intOf]; omega
              · have d3 : (vn.tmod 3 == 0) = false := by simpa using h3
                (refine wp_region_quiet_lit (by kernel_rfl) (by kernel_rfl) ?_; (repeat (first | ((with_reducible refine wpQuiet_step (fun K hK => ?_)); go_simp; (with_reducible refine hK _ ?_); clear hK K) | ((with_reducible refine wpQuiet_off (by kernel_rfl) (fun K hK => ?_)); go_simp; (with_reducible refine hK _ ?_); clear hK K))); (with_reducible refine wpQuiet_nil ?_); intro _ hw'; obtain ⟨nq, hw''⟩ := hw'; subst hw'')
                have HI := Lib.hid (hI.e_ ((E.refl wn).drewN nq))
                have HPG := Lib.hid (show PartG fs f0.item (k + 1) P M by rw [HIT.out]; exact hPG.out.skip HFK.out)
                obtain ⟨ws, hws⟩ : ∃ ws, wn.drewN nq = ws := ⟨_, rfl⟩
                rw [hws] at HI ⊢
                clear hws hI x0 x8 x7 y7
                by_cases h7 : vn.tmod 7 = 1
                · have d7 : (vn.tmod 7 == 1) = true := by simpa using h7
                  obtain ⟨V7, hV7⟩ : ∃ V, ws.drew.alloc (.cells #[.int .i64 fqid] 3) = V := ⟨_, rfl⟩
                  have hEV : E ws V7 := by rw [← hV7]; exact (E.refl ws).drew.alloc _
                  have hN7 : Nums .i64 V7 (some ⟨ws.heap.size, 0, none⟩) 1 1 [fqid] := by rw [← hV7]; exact nums_one ws.drew HWI.out
                  obtain ⟨A9, c9, W9, hrun, hb9, hI9⟩ := HI.out.made hEV _ fqid hN7 (by have := HML.out; omega) 22
                  have HI9 := Lib.hid hI9
                  have HPG9 := Lib.hid (show PartG fs f0.item (k + 1) _ (M ++ [fqid]) by rw [← HFQ.out.1]; exact HPG.out.add (by have := HML.out; omega) HIDS.out HFK.out)
                  obtain ⟨⟨_, _, _, _, _, _, _, _, _, _, y10⟩, _⟩ := HI.out.bx.both
                  obtain ⟨⟨_, _, _, _, _, _, _, _, _, _, q10⟩, _⟩ := (HI.out.bx.e hEV).both
                  obtain ⟨⟨_, _, _, _, _, _, _, _, _, _, w10⟩, _, _, _, _, _, _, _, _, _, _, f10⟩ := hb9.both
                  obtain ⟨x0, _, _⟩ := HC.out ws HI.out.e
                  clear hI9 hEV hN7 hb9
                  go_upto_region 17 with fail
                  refine wp_region_any (by kernel_rfl) ?_
                  change wpAny _ _ _ _ _ _ _ (World.drew _)
                  (((refine wpAny_take (i := 0) (v := ?_) rfl (by kernel_rfl) (by kernel_rfl) (by kernel_rfl) (fun _ _ _ h => h) (Or.inl ⟨by kernel_rfl, ?_⟩) ?_); rotate_left 1; (focus (intro w; go_simp; (try with_reducible rfl))); (try simp only [Act.put, List.setIfInBounds_toArray, List.set_cons_zero, List.set_cons_succ])); ((refine wpAny_take (i := 2) (v := ?_) rfl (by kernel_rfl) (by kernel_rfl) (by kernel_rfl) (fun _ _ _ h => h) (Or.inl ⟨by kernel_rfl, ?_⟩) ?_); rotate_left 1; (focus (intro w; go_simp; (try with_reducible rfl))); (try simp only [Act.put, List.setIfInBounds_toArray, List.set_cons_zero, List.set_cons_succ])); ((refine wpAny_take (i := 3) (v := ?_) rfl (by kernel_rfl) (by kernel_rfl) (by kernel_rfl) (fun _ _ _ h => h) (Or.inl ⟨by kernel_rfl, ?_⟩) ?_); rotate_left 1; (focus (intro w; go_simp; (try with_reducible rfl))); (try simp only [Act.put, List.setIfInBounds_toArray, List.set_cons_zero, List.set_cons_succ])); ((refine wpAny_take (i := 4) (v := ?_) rfl (by kernel_rfl) (by kernel_rfl) (by kernel_rfl) (fun _ _ _ h => h) (Or.inl ⟨by kernel_rfl, ?_⟩) ?_); rotate_left 1; (focus (intro w; go_simp; (try with_reducible rfl))); (try simp only [Act.put, List.setIfInBounds_toArray, List.set_cons_zero, List.set_cons_succ])); ((refine wpAny_take (i := 5) (v := ?_) rfl (by kernel_rfl) (by kernel_rfl) (by kernel_rfl) (fun _ _ _ h => h) (Or.inl ⟨by kernel_rfl, ?_⟩) ?_); rotate_left 1; (focus (intro w; go_simp; (try with_reducible rfl))); (try simp only [Act.put, List.setIfInBounds_toArray, List.set_cons_zero, List.set_cons_succ])))
                  refine wpAny_ready (rs := [1, 6]) (by kernel_rfl) (by simp) ?_
                  refine AllReady.cons rfl (fun K hK => ?_) (AllReady.cons rfl (fun K hK => ?_) AllReady.nil)
                  · rw [if_pos (by kernel_rfl)]
                    go_simp
                    refine hK _ _ ?_
                    clear hK K
                    (try simp only [Act.put, List.setIfInBounds_toArray, List.set_cons_zero, List.set_cons_succ])
                    (((refine wpAny_ready (rs := [6]) (by kernel_rfl) (by simp) ?_); (refine AllReady.cons rfl (fun K hK => ?_) AllReady.nil); (rw [if_pos (by kernel_rfl)]); go_simp))
                    refine hK _ _ ?_
                    clear hK K
                    (try simp only [Act.put, List.setIfInBounds_toArray, List.set_cons_zero, List.set_cons_succ])
                    (((refine wpAny_ready (rs := [7]) (by kernel_rfl) (by simp) ?_); (refine AllReady.cons rfl (fun K hK => ?_) AllReady.nil); (rw [if_pos (by kernel_rfl)]); go_simp))
                    (try rw [hV7])
                    refine hK _ _ ?_
                    clear hK K
                    (try simp only [Act.put, List.setIfInBounds_toArray, List.set_cons_zero, List.set_cons_succ])
                    refine wpAny_ready (rs := [8]) (by kernel_rfl) (by simp) ?_
                    refine AllReady.cons rfl (fun K hK => ?_) AllReady.nil
                    refine step_app_runQ (by rfl) _ _ (by rfl) (by rfl) (by rfl) hrun ?_
                    refine hK _ _ ?_
                    clear hK K
                    (try simp only [Act.put, List.setIfInBounds_toArray, List.set_cons_zero, List.set_cons_succ])
                    (((refine wpAny_take (i := 9) (v := ?_) rfl (by kernel_rfl) (by kernel_rfl) (by kernel_rfl) (fun _ _ _ h => h) (Or.inl ⟨by kernel_rfl, ?_⟩) ?_); rotate_left 1; (focus (intro w; go_simp; (try with_reducible rfl))); (try simp only [Act.put, List.setIfInBounds_toArray, List.set_cons_zero, List.set_cons_succ])))
                    (((refine wpAny_ready (rs := [10]) (by kernel_rfl) (by simp) ?_); (refine AllReady.cons rfl (fun K hK => ?_) AllReady.nil); (rw [if_pos (by kernel_rfl)]); go_simp))
                    refine hK _ _ ?_
                    clear hK K
                    (try simp only [Act.put, List.setIfInBounds_toArray, List.set_cons_zero, List.set_cons_succ])
                    refine wpAny_done (by kernel_rfl) ?_ _
                    go_simp
                    clear x0 y10 q10 w10 f10 hrun
                    go_wp2_with fail
                    go_roundw
                    case rel => exact ⟨k + 1, _, _, _, _, _, _, _, _, by omega, by go_num, rfl, HI9.out, HPG9.out⟩
                    case measure => simp [intOf]; omega
                  · rw [if_pos (by kernel_rfl)]
                    go_simp
                    refine hK _ _ ?_
                    clear hK K
                    (try simp only [Act.put, List.setIfInBounds_toArray, List.set_cons_zero, List.set_cons_succ])
                    refine wpAny_ready (rs := [1, 7]) (by kernel_rfl) (by simp) ?_
                    refine AllReady.cons rfl (fun K hK => ?_) (AllReady.cons rfl (fun K hK => ?_) AllReady.nil)
                    · rw [if_pos (by kernel_rfl)]
                      go_simp
                      refine hK _ _ ?_
                      clear hK K
                      (try simp only [Act.put, List.setIfInBounds_toArray, List.set_cons_zero, List.set_cons_succ])
                      (((refine wpAny_ready (rs := [7]) (by kernel_rfl) (by simp) ?_); (refine AllReady.cons rfl (fun K hK => ?_) AllReady.nil); (rw [if_pos (by kernel_rfl)]); go_simp))
                      (try rw [hV7])
                      refine hK _ _ ?_
                      clear hK K
                      (try simp only [Act.put, List.setIfInBounds_toArray, List.set_cons_zero, List.set_cons_succ])
                      refine wpAny_ready (rs := [8]) (by kernel_rfl) (by simp) ?_
                      refine AllReady.cons rfl (fun K hK => ?_) AllReady.nil
                      refine step_app_runQ (by rfl) _ _ (by rfl) (by rfl) (by rfl) hrun ?_
                      refine hK _ _ ?_
                      clear hK K
                      (try simp only [Act.put, List.setIfInBounds_toArray, List.set_cons_zero, List.set_cons_succ])
                      (((refine wpAny_take (i := 9) (v := ?_) rfl (by kernel_rfl) (by kernel_rfl) (by kernel_rfl) (fun _ _ _ h => h) (Or.inl ⟨by kernel_rfl, ?_⟩) ?_); rotate_left 1; (focus (intro w; go_simp; (try with_reducible rfl))); (try simp only [Act.put, List.setIfInBounds_toArray, List.set_cons_zero, List.set_cons_succ])))
                      (((refine wpAny_ready (rs := [10]) (by kernel_rfl) (by simp) ?_); (refine AllReady.cons rfl (fun K hK => ?_) AllReady.nil); (rw [if_pos (by kernel_rfl)]); go_simp))
                      refine hK _ _ ?_
                      clear hK K
                      (try simp only [Act.put, List.setIfInBounds_toArray, List.set_cons_zero, List.set_cons_succ])
                      refine wpAny_done (by kernel_rfl) ?_ _
                      go_simp
                      clear x0 y10 q10 w10 f10 hrun
                      go_wp2_with fail
                      go_roundw
                      case rel => exact ⟨k + 1, _, _, _, _, _, _, _, _, by omega, by go_num, rfl, HI9.out, HPG9.out⟩
                      case measure => simp [intOf]; omega
                    · rw [if_pos (by kernel_rfl)]
                      go_simp
                      (try rw [hV7])
                      refine hK _ _ ?_
                      clear hK K
                      (try simp only [Act.put, List.setIfInBounds_toArray, List.set_cons_zero, List.set_cons_succ])
                      (((refine wpAny_ready (rs := [1]) (by kernel_rfl) (by simp) ?_); (refine AllReady.cons rfl (fun K hK => ?_) AllReady.nil); (rw [if_pos (by kernel_rfl)]); go_simp))
                      refine hK _ _ ?_
                      clear hK K
                      (try simp only [Act.put, List.setIfInBounds_toArray, List.set_cons_zero, List.set_cons_succ])
                      refine wpAny_ready (rs := [8]) (by kernel_rfl) (by simp) ?_
                      refine AllReady.cons rfl (fun K hK => ?_) AllReady.nil
                      refine step_app_runQ (by rfl) _ _ (by rfl) (by rfl) (by rfl) hrun ?_
                      refine hK _ _ ?_
                      clear hK K
                      (try simp only [Act.put, List.setIfInBounds_toArray, List.set_cons_zero, List.set_cons_succ])
                      (((refine wpAny_take (i := 9) (v := ?_) rfl (by kernel_rfl) (by kernel_rfl) (by kernel_rfl) (fun _ _ _ h => h) (Or.inl ⟨by kernel_rfl, ?_⟩) ?_); rotate_left 1; (focus (intro w; go_simp; (try with_reducible rfl))); (try simp only [Act.put, List.setIfInBounds_toArray, List.set_cons_zero, List.set_cons_succ])))
                      (((refine wpAny_ready (rs := [10]) (by kernel_rfl) (by simp) ?_); (refine AllReady.cons rfl (fun K hK => ?_) AllReady.nil); (rw [if_pos (by kernel_rfl)]); go_simp))
                      refine hK _ _ ?_
                      clear hK K
                      (try simp only [Act.put, List.setIfInBounds_toArray, List.set_cons_zero, List.set_cons_succ])
                      refine wpAny_done (by kernel_rfl) ?_ _
                      go_simp
                      clear x0 y10 q10 w10 f10 hrun
                      go_wp2_with fail
                      go_roundw
                      case rel => exact ⟨k + 1, _, _, _, _, _, _, _, _, by omega, by go_num, rfl, HI9.out, HPG9.out⟩
                      case measure => simp [intOf]; omega
                · have d7 : (vn.tmod 7 == 1) = false := by simpa using h7
                  have d8 : (vn % 7 == 1) = false := by rw [Int.tmod_eq_emod_of_nonneg (by omega)] at d7; exact d7
                  go_wp2_with fail
                  go_roundw
                  case rel => exact ⟨k + 1, _, _, _, _, _, _, _, _, by omega, by go_num, rfl, HI.out, HPG.out⟩
                  case measure => simp [intOf]; omega
            · have d1 : (fqi == it0) = false := by simpa using he
              (refine wp_region_quiet_lit (by kernel_rfl) (by kernel_rfl) ?_; (repeat (first | ((with_reducible refine wpQuiet_step (fun K hK => ?_)); go_simp; (with_reducible refine hK _ ?_); clear hK K) | ((with_reducible refine wpQuiet_off (by kernel_rfl) (fun K hK => ?_)); go_simp; (with_reducible refine hK _ ?_); clear hK K))); (with_reducible refine wpQuiet_nil ?_); intro _ hw'; obtain ⟨nq, hw''⟩ := hw'; subst hw'')
              have HI := Lib.hid (hI.e_ ((E.refl wn).drewN nq))
              have HPG := Lib.hid (show PartG fs f0.item (k + 1) P M by rw [HIT.out]; exact hPG.out.skip HFK.out)
              obtain ⟨ws, hws⟩ : ∃ ws, wn.drewN nq = ws := ⟨_, rfl⟩
              rw [hws] at HI ⊢
              clear hws hI x0 x8 x7 y7
              by_cases h7 : vn.tmod 7 = 1
              · have d7 : (vn.tmod 7 == 1) = true := by simpa using h7
                obtain ⟨V7, hV7⟩ : ∃ V, ws.drew.alloc (.cells #[.int .i64 fqid] 3) = V := ⟨_, rfl⟩
                have hEV : E ws V7 := by rw [← hV7]; exact (E.refl ws).drew.alloc _
                have hN7 : Nums .i64 V7 (some ⟨ws.heap.size, 0, none⟩) 1 1 [fqid] := by rw [← hV7]; exact nums_one ws.drew HWI.out
                obtain ⟨A9, c9, W9, hrun, hb9, hI9⟩ := HI.out.made hEV _ fqid hN7 (by have := HML.out; omega) 22
                have HI9 := Lib.hid hI9
                have HPG9 := Lib.hid (show PartG fs f0.item (k + 1) _ (M ++ [fqid]) by rw [← HFQ.out.1]; exact HPG.out.add (by have := HML.out; omega) HIDS.out HFK.out)
                obtain ⟨⟨_, _, _, _, _, _, _, _, _, _, y10⟩, _⟩ := HI.out.bx.both
                obtain ⟨⟨_, _, _, _, _, _, _, _, _, _, q10⟩, _⟩ := (HI.out.bx.e hEV).both
                obtain ⟨⟨_, _, _, _, _, _, _, _, _, _, w10⟩, _, _, _, _, _, _, _, _, _, _, f10⟩ := hb9.both
                obtain ⟨x0, _, _⟩ := HC.out ws HI.out.e
                clear hI9 hEV hN7 hb9
                go_upto_region 17 with fail
                refine wp_region_any (by kernel_rfl) ?_
                change wpAny _ _ _ _ _ _ _ (World.drew _)
                (((refine wpAny_take (i := 0) (v := ?_) rfl (by kernel_rfl) (by kernel_rfl) (by kernel_rfl) (fun _ _ _ h => h) (Or.inl ⟨by kernel_rfl, ?_⟩) ?_); rotate_left 1; (focus (intro w; go_simp; (try with_reducible rfl))); (try simp only [Act.put, List.setIfInBounds_toArray, List.set_cons_zero, List.set_cons_succ])); ((refine wpAny_take (i := 2) (v := ?_) rfl (by kernel_rfl) (by kernel_rfl) (by kernel_rfl) (fun _ _ _ h => h) (Or.inl ⟨by kernel_rfl, ?_⟩) ?_); rotate_left 1; (focus (intro w; go_simp; (try with_reducible rfl))); (try simp only [Act.put, List.setIfInBounds_toArray, List.set_cons_zero, List.set_cons_succ])); ((refine wpAny_take (i := 3) (v := ?_) rfl (by kernel_rfl) (by kernel_rfl) (by kernel_rfl) (fun _ _ _ h => h) (Or.inl ⟨by kernel_rfl, ?_⟩) ?_); rotate_left 1; (focus (intro w; go_simp; (try with_reducible rfl))); (try simp only [Act.put, List.setIfInBounds_toArray, List.set_cons_zero, List.set_cons_succ])); ((refine wpAny_take (i := 4) (v := ?_) rfl (by kernel_rfl) (by kernel_rfl) (by kernel_rfl) (fun _ _ _ h => h) (Or.inl ⟨by kernel_rfl, ?_⟩) ?_); rotate_left 1; (focus (intro w; go_simp; (try with_reducible rfl))); (try simp only [Act.put, List.setIfInBounds_toArray, List.set_cons_zero, List.set_cons_succ])); ((refine wpAny_take (i := 5) (v := ?_) rfl (by kernel_rfl) (by kernel_rfl) (by kernel_rfl) (fun _ _ _ h => h) (Or.inl ⟨by kernel_rfl, ?_⟩) ?_); rotate_left 1; (focus (intro w; go_simp; (try with_reducible rfl))); (try simp only [Act.put, List.setIfInBounds_toArray, List.set_cons_zero, List.set_cons_succ])))
                refine wpAny_ready (rs := [1, 6]) (by kernel_rfl) (by simp) ?_
                refine AllReady.cons rfl (fun K hK => ?_) (AllReady.cons rfl (fun K hK => ?_) AllReady.nil)
                · rw [if_pos (by kernel_rfl)]
                  go_simp
                  refine hK _ _ ?_
                  clear hK K
                  (try simp only [Act.put, List.setIfInBounds_toArray, List.set_cons_zero, List.set_cons_succ])
                  (((refine wpAny_ready (rs := [6]) (by kernel_rfl) (by simp) ?_); (refine AllReady.cons rfl (fun K hK => ?_) AllReady.nil); (rw [if_pos (by kernel_rfl)]); go_simp))
                  refine hK _ _ ?_
                  clear hK K
                  (try simp only [Act.put, List.setIfInBounds_toArray, List.set_cons_zero, List.set_cons_succ])
                  (((refine wpAny_ready (rs := [7]) (by kernel_rfl) (by simp) ?_); (refine AllReady.cons rfl (fun K hK => ?_) AllReady.nil); (rw [if_pos (by kernel_rfl)]); go_simp))
                  (try rw [hV7])
                  refine hK _ _ ?_
                  clear hK K
                  (try simp only [Act.put, List.setIfInBounds_toArray, List.set_cons_zero, List.set_cons_succ])
                  refine wpAny_ready (rs := [8]) (by kernel_rfl) (by simp) ?_
                  refine AllReady.cons rfl (fun K hK => ?_) AllReady.nil
                  refine step_app_runQ (by rfl) _ _ (by rfl) (by rfl) (by rfl) hrun ?_
                  refine hK _ _ ?_
                  clear hK K
                  (try simp only [Act.put, List.setIfInBounds_toArray, List.set_cons_zero, List.set_cons_succ])
                  (((refine wpAny_take (i := 9) (v := ?_) rfl (by kernel_rfl) (by kernel_rfl) (by kernel_rfl) (fun _ _ _ h => h) (Or.inl ⟨by kernel_rfl, ?_⟩) ?_); rotate_left 1; (focus (intro w; go_simp; (try with_reducible rfl))); (try simp only [Act.put, List.setIfInBounds_toArray, List.set_cons_zero, List.set_cons_succ])))
                  (((refine wpAny_ready (rs := [10]) (by kernel_rfl) (by simp) ?_); (refine AllReady.cons rfl (fun K hK => ?_) AllReady.nil); (rw [if_pos (by kernel_rfl)]); go_simp))
                  refine hK _ _ ?_
                  clear hK K
                  (try simp only [Act.put, List.setIfInBounds_toArray, List.set_cons_zero, List.set_cons_succ])
                  refine wpAny_done (by kernel_rfl) ?_ _
                  go_simp
                  clear x0 y10 q10 w10 f10 hrun
                  go_wp2_with fail
                  go_roundw
                  case rel => exact ⟨k + 1, _, _, _, _, _, _, _, _, by omega, by go_num, rfl, HI9.out, HPG9.out⟩
                  case measure => simp [intOf]; omega
                · rw [if_pos (by kernel_rfl)]
                  go_simp
                  refine hK _ _ ?_
                  clear hK K
                  (try simp only [Act.put, List.setIfInBounds_toArray, List.set_cons_zero, List.set_cons_succ])
                  refine wpAny_ready (rs := [1, 7]) (by kernel_rfl) (by simp) ?_
                  refine AllReady.cons rfl (fun K hK => ?_) (AllReady.cons rfl (fun K hK => ?_) AllReady.nil)
                  · rw [if_pos (by kernel_rfl)]
                    go_simp
                    refine hK _ _ ?_
                    clear hK K
                    (try simp only [Act.put, List.setIfInBounds_toArray, List.set_cons_zero, List.set_cons_succ])
                    (((refine wpAny_ready (rs := [7]) (by kernel_rfl) (by simp) ?_); (refine AllReady.cons rfl (fun K hK => ?_) AllReady.nil); (rw [if_pos (by kernel_rfl)]); go_simp))
                    (try rw [hV7])
                    refine hK _ _ ?_
                    clear hK K
                    (try simp only [Act.put, List.setIfInBounds_toArray, List.set_cons_zero, List.set_cons_succ])
                    refine wpAny_ready (rs := [8]) (by kernel_rfl) (by simp) ?_
                    refine AllReady.cons rfl (fun K hK => ?_) AllReady.nil
                    refine step_app_runQ (by rfl) _ _ (by rfl) (by rfl) (by rfl) hrun ?_
                    refine hK _ _ ?_
                    clear hK K
                    (try simp only [Act.put, List.setIfInBounds_toArray, List.set_cons_zero, List.set_cons_succ])
                    (((refine wpAny_take (i := 9) (v := ?_) rfl (by kernel_rfl) (by kernel_rfl) (by kernel_rfl) (fun _ _ _ h => h) (Or.inl ⟨by kernel_rfl, ?_⟩) ?_); rotate_left 1; (focus (intro w; go_simp; (try with_reducible rfl))); (try simp only [Act.put, List.setIfInBounds_toArray, List.set_cons_zero, List.set_cons_succ])))
                    (((refine wpAny_ready (rs := [10]) (by kernel_rfl) (by simp) ?_); (refine AllReady.cons rfl (fun K hK => ?_) AllReady.nil); (rw [if_pos (by kernel_rfl)]); go_simp))
                    refine hK _ _ ?_
                    clear hK K
                    (try simp only [Act.put, List.setIfInBounds_toArray, List.set_cons_zero, List.set_cons_succ])
                    refine wpAny_done (by kernel_rfl) ?_ _
                    go_simp
                    clear x0 y10 q10 w10 f10 hrun
                    go_wp2_with fail
                    go_roundw
                    case rel => exact ⟨k + 1, _, _, _, _, _, _, _, _, by omega, by go_num, rfl, HI9.out, HPG9.out⟩
                    case measure => simp [intOf]; omega
                  · rw [if_pos (by kernel_rfl)]
                    go_simp
                    (try rw [hV7])
                    refine hK _ _ ?_
                    clear hK K
                    (try simp only [Act.put, List.setIfInBounds_toArray, List.set_cons_zero, List.set_cons_succ])
                    (((refine wpAny_ready (rs := [1]) (by kernel_rfl) (by simp) ?_); (refine AllReady.cons rfl (fun K hK => ?_) AllReady.nil); (rw [if_pos (by kernel_rfl)]); go_simp))
                    refine hK _ _ ?_
                    clear hK K
                    (try simp only [Act.put, List.setIfInBounds_toArray, List.set_cons_zero, List.set_cons_succ])
                    refine wpAny_ready (rs := [8]) (by kernel_rfl) (by simp) ?_
                    refine AllReady.cons rfl (fun K hK => ?_) AllReady.nil
                    refine step_app_runQ (by rfl) _ _ (by rfl) (by rfl) (by rfl) hrun ?_
                    refine hK _ _ ?_
                    clear hK K
                    (try simp only [Act.put, List.setIfInBounds_toArray, List.set_cons_zero, List.set_cons_succ])
                    (((refine wpAny_take (i := 9) (v := ?_) rfl (by kernel_rfl) (by kernel_rfl) (by kernel_rfl) (fun _ _ _ h => h) (Or.inl ⟨by kernel_rfl, ?_⟩) ?_); rotate_left 1; (focus (intro w; go_simp; (try with_reducible rfl))); (try simp only [Act.put, List.setIfInBounds_toArray, List.set_cons_zero, List.set_cons_succ])))
                    (((refine wpAny_ready (rs := [10]) (by kernel_rfl) (by simp) ?_); (refine AllReady.cons rfl (fun K hK => ?_) AllReady.nil); (rw [if_pos (by kernel_rfl)]); go_simp))
                    refine hK _ _ ?_
                    clear hK K
                    (try simp only [Act.put, List.setIfInBounds_toArray, List.set_cons_zero, List.set_cons_succ])
                    refine wpAny_done (by kernel_rfl) ?_ _
                    go_simp
                    clear x0 y10 q10 w10 f10 hrun
                    go_wp2_with fail
                    go_roundw
                    case rel => exact ⟨k + 1, _, _, _, _, _, _, _, _, by omega, by go_num, rfl, HI9.out, HPG9.out⟩
                    case measure => simp [intOf]; omega
              · have d7 : (vn.tmod 7 == 1) = false := by simpa using h7
                have d8 : (vn % 7 == 1) = false := by rw [Int.tmod_eq_emod_of_nonneg (by omega)] at d7; exact d7
                go_wp2_with fail
                go_roundw
                case rel => exact ⟨k + 1, _, _, _, _, _, _, _, _, by omega, by go_num, rfl, HI.out, HPG.out⟩
                case measure => simp [intOf]; omega
          · have hki : i = k := by omega
            subst hki
            have HI := Lib.hid hI
            have HPL := Lib.hid (show np = P.length ∧ P.length ≤ i from ⟨hI.op.1.symm, hPG.out.pl⟩)
            have HML := Lib.hid (show nm = M.length ∧ M.length ≤ i from ⟨hI.om.1.symm, hPG.out.ml⟩)
            have HP := Lib.hid (HQ.out (aN + 4) 5 wr hI.e (by omega) (by omega) (by omega))
            rw [show ((aN + 4 : Nat) : Int) = (aN : Int) + 4 by omega] at HP
            have rp := pk_range l (aN + 4) (m := 5) (by omega)
            generalize pk l (aN + 4) 5 = pv at *
            have hn63 := hI.op.reads.n63
            have hwe : IntKind.i64.wrap ((aN : Int) + 4) = (aN : Int) + 4 := by rw [IntKind.wrap_i64]; omega
            obtain ⟨hid0, hit0, hn0, hp0, hwf0⟩ := HF0.out
            have HGA := Lib.hid (show GenG (fs ++ [({ f0 with made := M } : Fl)]) (i + 1) from HGF.out.new (f := { f0 with made := M }) (by simp only [hid0]; exact HID.out) (by simp only [hit0]; exact HV.out.1.1) (by simp only [hp0]; rw [HFL.out]; exact hPG.out.none_) (.inl ⟨hp0, by simp only [hn0]; have := HV.out; omega, by simp only [hn0]; have := HV.out; omega⟩))
            have HGB := Lib.hid (fun (hne : P ≠ []) => show GenG (fs ++ [({ f0 with parts := P, n := totL P, made := [] } : Fl)]) (i + 1) from HGF.out.new (f := { f0 with parts := P, n := totL P, made := [] }) (by simp only [hid0]; exact HID.out) (by simp only [hit0]; exact HV.out.1.1) (by simp only; rw [HFL.out]; exact hPG.out.some_) (.inr ⟨hne, rfl, rfl⟩))
            have HWA := Lib.hid (show WfF ({ f0 with made := M } : Fl) from hwf0)
            have HVP := Lib.hid (hPG.out.valid HOKF.out (by omega))
            clear hid0 hit0 hn0 hp0 hwf0 hI
            have hskip : ∀ W, E wr W → FlB W ({ f0 with made := M } : Fl) zS (Am, nm, cm) := fun W hE => ⟨by rw [show ({ f0 with made := M } : Fl).parts = [] from HF0.out.2.2.2.1]; exact LotsAt.nil _ _ _ (Nat.zero_le _), (HI.out.om.e hE).reads⟩
            have HSK := Lib.hid hskip
            have HN1 := Lib.hid (show 0 < zS.2.1 → ob zS.1 ≠ ob A from fun h => absurd h (by simp [zS]))
            have HN2 := Lib.hid (show 0 < nm → ob Am ≠ ob A from fun h => by
              rcases HI.out.om.form with ⟨_, h0, _⟩ | ⟨g, rfl, hg, _⟩
              · omega
              · exact ne_low HFA.out HB.out (A2 := some ⟨g, 0, none⟩) (fun b hb => by injection hb with hb; simp at hb; omega) ⟨g, rfl⟩)
            clear hskip
            by_cases hnp : np = 0
            · subst hnp
              have HBX9 := Lib.hid HI.out.bx
              have HE9 := Lib.hid HI.out.e
              have HFB := Lib.hid (HSK.out wr (E.refl wr))
              obtain ⟨ws, hws⟩ : ∃ ws, ws = wr := ⟨_, rfl⟩
              subst hws
              obtain ⟨g9, c9, W9, hrun, hF9, hE9⟩ := flow_push HFA.out HEW.out HE9.out ({ f0 with made := M }) (zS) ((Am, nm, cm)) HWA.out HFB.out HN1.out HN2.out (by omega) 23
              have HF9 := Lib.hid hF9
              have HE90 := Lib.hid hE9
              have HGN := Lib.hid (show GenG ((q ++ [({ f0 with made := M }, zS, (Am, nm, cm))]).map Prod.fst) (i + 1) by
                rw [List.map_append, HFS.out]
                exact HGA.out)
              obtain ⟨⟨y0, y1, y2, y3, y4, y5, y6, y7, y8, y9, y10⟩, _⟩ := HBX9.out.both
              simp only [zS] at y0 y1 y2 y3 y4 y5 y6 y7 y8 y9 y10 hrun
              clear hF9 hE9
              go_wp2_with (at_builtin; refine wpList_app_runM rfl _ _ rfl rfl rfl hrun ?_)
              go_roundw
              case rel => exact ⟨i + 1, c9, _, _, by omega, by go_num, rfl, HF9.out, HE90.out, HGN⟩
              case measure => simp [intOf]; omega
            · have hnpp : (0 : Int) < (np : Int) := by omega
              by_cases hpv : pv = 0
              · subst hpv
                go_upto_region 22 with (go_at_call 37; refine HP.out.mono ?_; rintro e ws ⟨rfl, hEn⟩)
                have HBX9 := Lib.hid (HI.out.bx.e hEn)
                have HE9 := Lib.hid (HI.out.e.trans hEn)
                have HFB := Lib.hid (HSK.out ws hEn)
                obtain ⟨g9, c9, W9, hrun, hF9, hE9⟩ := flow_push HFA.out HEW.out HE9.out ({ f0 with made := M }) (zS) ((Am, nm, cm)) HWA.out HFB.out HN1.out HN2.out (by omega) 23
                have HF9 := Lib.hid hF9
                have HE90 := Lib.hid hE9
                have HGN := Lib.hid (show GenG ((q ++ [({ f0 with made := M }, zS, (Am, nm, cm))]).map Prod.fst) (i + 1) by
                  rw [List.map_append, HFS.out]
                  exact HGA.out)
                obtain ⟨⟨y0, y1, y2, y3, y4, y5, y6, y7, y8, y9, y10⟩, _⟩ := HBX9.out.both
                simp only [zS] at y0 y1 y2 y3 y4 y5 y6 y7 y8 y9 y10 hrun
                clear hF9 hE9
                go_wp2_with (at_builtin; refine wpList_app_runM rfl _ _ rfl rfl rfl hrun ?_)
                go_roundw
                case rel => exact ⟨i + 1, c9, _, _, by omega, by go_num, rfl, HF9.out, HE90.out, HGN⟩
                case measure => simp [intOf]; omega
              · have hpvp : 0 < pv := by omega
                go_upto_region 19 with (go_at_call 37; refine HP.out.mono ?_; rintro e ws ⟨rfl, hEn⟩)
                have hI2 := HI.out.e_ hEn
                have hb2 := hI2.bx
                obtain ⟨⟨_, _, _, _, _, _, _, _, _, y9, _⟩, _, _, _, _, _, _, _, _, _, z9, _⟩ := hb2.both
                have hb3 := hb2.set9 Ap np cp
                have hX3 := ex_set ws B 9 (.slice Ap np cp)
                have hE3 : E wa (ws.setCell ⟨B, 9, none⟩ (.slice Ap np cp)) := hI2.e.setCell hI2.lo _
                have hO3 := hI2.op.ex hX3 (fun b hb e => by have := (hI2.op.ltN b hb).1; omega)
                go_upto_region 20 with fail
                obtain ⟨w3, hw3⟩ : ∃ w3, ws.setCell ⟨B, 9, none⟩ (.slice Ap np cp) = w3 := ⟨_, rfl⟩
                rw [hw3] at hb3 hE3 hO3 ⊢
                have HT := Lib.hid (refTotal_c Ap np cp P w3 hO3.reads)
                rw [show totalS P = totL P by rw [totalS, HVP.out]; rfl] at HT
                have HB3 := Lib.hid hb3
                have HE3 := Lib.hid hE3
                have HO3 := Lib.hid hO3
                clear hb3 hE3 hO3 hX3 hI2 hb2 y9 z9 hw3
                go_upto_region 21 with (go_at_call 38; refine HT.out.mono ?_; rintro e w4 ⟨rfl, hE4⟩; obtain ⟨⟨_, _, _, _, _, _, _, _, y8, _, _⟩, _, _, _, _, _, _, _, _, z8, _, _⟩ := (HB3.out.e hE4).both)
                have hb4 := (HB3.out.e hE4).set8 (totL P)
                have hE4' : E wa (w4.setCell ⟨B, 8, none⟩ (.int .i64 (totL P))) := (HE3.out.trans hE4).setCell HB.out _
                have hO4 := (HO3.out.e hE4).ex (ex_set w4 B 8 (.int .i64 (totL P))) (fun b hb e => by have := ((HO3.out.e hE4).ltN b hb).1; omega)
                obtain ⟨w5, hw5⟩ : ∃ w5, w4.setCell ⟨B, 8, none⟩ (.int .i64 (totL P)) = w5 := ⟨_, rfl⟩
                rw [hw5] at hb4 hE4' hO4 ⊢
                obtain ⟨⟨_, _, _, _, _, _, _, _, _, _, q10⟩, _, _, _, _, _, _, _, _, _, _, f10⟩ := hb4.both
                have hb5 := hb4.set10 none 0 0
                have hE5 : E wa (w5.setCell ⟨B, 10, none⟩ (.slice none 0 0)) := hE4'.setCell HB.out _
                have hO5 := hO4.ex (ex_set w5 B 10 (.slice none 0 0)) (fun b hb e => by have := (hO4.ltN b hb).1; omega)
                clear hb4 hE4' hO4 y8 z8 hw5 hE4
                go_upto_region 22 with fail
                obtain ⟨ws2, hws⟩ : ∃ ws2, w5.setCell ⟨B, 10, none⟩ (.slice none 0 0) = ws2 := ⟨_, rfl⟩
                rw [hws] at hb5 hE5 hO5 ⊢
                have HBX9 := Lib.hid hb5
                have HE9 := Lib.hid hE5
                have HFB := Lib.hid (show FlB ws2 ({ f0 with parts := P, n := totL P, made := [] } : Fl) (Ap, np, cp) zS from ⟨hO5.reads, Nums.nil _ _ _ _ (Nat.zero_le _)⟩)
                have HNE := Lib.hid (show P ≠ [] from fun e => by rw [e] at HPL; exact hnp HPL.out.1)
                have HWB := Lib.hid (show WfF ({ f0 with parts := P, n := totL P, made := [] } : Fl) by
                  have h9 := (HGB.out HNE.out).ok.ok _ (List.mem_append_right _ (List.mem_singleton.2 rfl))
                  obtain ⟨_, _, _, o3, o4, _⟩ := okF_iff.1 h9
                  obtain ⟨_, _, _, _, w1, w2, w3, w4, w5, w6, w7, w8, _⟩ := HF0.out
                  exact ⟨w1, w2, w3, w4, w5, w6, w7, w8, wf_of_i64 (by simp only at o3 ⊢; omega) (by simp only at o4 ⊢; omega)⟩)
                clear HN1 HN2
                have HN2 := Lib.hid (show 0 < zS.2.1 → ob zS.1 ≠ ob A from fun h => absurd h (by simp [zS]))
                have HN1 := Lib.hid (show 0 < np → ob Ap ≠ ob A from fun h => by
                  rcases HI.out.op.form with ⟨_, h0, _⟩ | ⟨g, rfl, hg, _⟩
                  · omega
                  · exact ne_low HFA.out HB.out (A2 := some ⟨g, 0, none⟩) (fun b hb => by injection hb with hb; simp at hb; omega) ⟨g, rfl⟩)
                clear hb5 hE5 hO5 q10 f10 hws
                obtain ⟨g9, c9, W9, hrun, hF9, hE9⟩ := flow_push HFA.out HEW.out HE9.out ({ f0 with parts := P, n := totL P, made := [] }) ((Ap, np, cp)) (zS) HWB.out HFB.out HN1.out HN2.out (by omega) 23
                have HF9 := Lib.hid hF9
                have HE90 := Lib.hid hE9
                have HGN := Lib.hid (show GenG ((q ++ [({ f0 with parts := P, n := totL P, made := [] }, (Ap, np, cp), zS)]).map Prod.fst) (i + 1) by
                  rw [List.map_append, HFS.out]
                  exact (HGB.out HNE.out))
                obtain ⟨⟨y0, y1, y2, y3, y4, y5, y6, y7, y8, y9, y10⟩, _⟩ := HBX9.out.both
                simp only [zS] at y0 y1 y2 y3 y4 y5 y6 y7 y8 y9 y10 hrun
                clear hF9 hE9
                go_wp2_with (at_builtin; refine wpList_app_runM rfl _ _ rfl rfl rfl hrun ?_)
                go_roundw
                case rel => exact ⟨i + 1, c9, _, _, by omega, by go_num, rfl, HF9.out, HE90.out, HGN⟩
                case measure => simp [intOf]; omega
    · go_wp2_with fail
      go_ret
      exact ⟨q.map Prod.fst, A, i, c, hG.out, by omega, rfl, hFa.flows, HE1.out.trans hEw⟩
end Go.Proofs.Ytmeplpiamkaniaa
