/- Lemmas of the claim, joined: VE. No condition. -/
import Derived.Test.YtgbamgijpgjmgaaBG
/- The iterator of spans.Pieces. -/
namespace Go.Proofs.Ytgbamgijpgjmgaa
open Go.RowKit Go.Shelf
attribute [local go_sem] Oper.semAt_some

theorem cells3_of {w : World} {b : Nat} {x y z : Value} {T : TypeId} (h : w.heap[b]? = some (.cells #[x, y, z] T (0, 0))) : w.cell? ⟨b, 0, none⟩ = some x ∧ w.cell? ⟨b, 1, none⟩ = some y ∧ w.cell? ⟨b, 2, none⟩ = some z ∧ w.frozen? ⟨b, 1, none⟩ = false ∧ w.frozen? ⟨b, 2, none⟩ = false :=
  ⟨cell_of_row _ _ 0 _ _ _ h, cell_of_row _ _ 1 _ _ _ h, cell_of_row _ _ 2 _ _ _ h, frozen_of_row _ _ 1 _ _ h, frozen_of_row _ _ 2 _ _ h⟩
theorem set12 {w : World} {b : Nat} {x y z y' z' : Value} {T : TypeId} (h : w.heap[b]? = some (.cells #[x, y, z] T (0, 0))) : ((w.setCell ⟨b, 1, none⟩ y').setCell ⟨b, 2, none⟩ z').heap[b]? = some (.cells #[x, y', z'] T (0, 0)) :=
  heap_setCell_same _ _ 2 _ _ z' (heap_setCell_same _ _ 1 _ _ y' h)
/-- what stays through the pieces: the iterator's own list and set -/
structure PW (W1 : World) (X0 : Nat → Prop) (W : World) (X : Nat → Prop) : Prop where
  ex : Ex X0 W1 W
  xx : ∀ i, X i → X0 i ∨ W1.heap.size ≤ i
theorem PW.step {W1 W W' : World} {X0 X X' : Nat → Prop} (h : PW W1 X0 W X) (hx : Ex X W W') (hX : ∀ i, X' i → X i ∨ W.heap.size ≤ i) : PW W1 X0 W' X' :=
  ⟨h.ex.trans hx (fun _ _ x => x) (fun i hi y => by
    rcases h.xx i y with h1 | h1
    · exact h1
    · omega), fun i hi => by
    rcases hX i hi with h1 | h1
    · exact h.xx i h1
    · right; have := h.ex.size; omega⟩
theorem PW.own {W1 W W' : World} {X0 X : Nat → Prop} (h : PW W1 X0 W X) {b : Nat} (hb : W1.heap.size ≤ b) (hx : Ex (fun i => i = b) W W') : PW W1 X0 W' X :=
  ⟨h.ex.trans hx (fun _ _ x => x) (fun i hi y => by omega), h.xx⟩

set_option maxHeartbeats 16000000 in
set_option maxRecDepth 100000 in
theorem spieces1_c {L N : Nat} {on : Bool → Bool} {J Jx : List (Lt × Bool) → (Nat → Prop) → World → Prop} (hJ : EatsX L N on J Jx) (hon : on true = true)
    (W1 : World) (Bl Bs : Nat) (A : Option Addr) (n c : Nat) (l : List Lt) (As : Option Addr) (ns cs : Nat) (s : List Lt) (hA : LotsAt W1 A n c l) (hS : LotsAt W1 As ns cs s) (hAN : 0 < n → ∀ b, ob A = some b → b < N) (hSN : 0 < ns → ∀ b, ob As = some b → b < N)
    (hp : ∀ x ∈ l, possB x = true) (hps : ∀ x ∈ s, possB x = true) (hcan : Canon s) (hl : W1.heap[Bl]? = some (.cells #[.slice A n c] 22 (0, 0))) (hs : W1.heap[Bs]? = some (.cells #[.slice As ns cs] 22 (0, 0))) (hcnt : n * (2 * ns + 1) ≤ 300000) (hns : ns ≤ 100000)
    (X0 : Nat → Prop) (h0 : J [] X0 W1) (hXl : ¬ X0 Bl) (hXs : ¬ X0 Bs) :
    Calls Try.prog 103 #[.func (.yield L) #[] #[], ptr Bl, ptr Bs] W1 fun e W' => (∃ v, e = .returned v) ∧ ∃ ps us X', Parts s us ps ∧ ((J ps X' W' ∧ us = U l ∧ ∀ p ∈ ps, on p.2 = true) ∨ (Jx ps X' W' ∧ (∀ u ∈ us, u ∈ U l) ∧ ∃ p ∈ ps, on p.2 = false)) ∧ Ex X0 W1 W' ∧ ∀ i, X' i → X0 i ∨ W1.heap.size ≤ i := by
  have hX0 := hJ.lt _ _ _ h0
  have HAt := Lib.hid (fun (W : World) (X : Nat → Prop) (h : PW W1 X0 W X) => (show LotsAt W A n c l ∧ LotsAt W As ns cs s ∧ W.heap[Bl]? = some (.cells #[.slice A n c] 22 (0, 0)) ∧ W.heap[Bs]? = some (.cells #[.slice As ns cs] 22 (0, 0)) from
    ⟨hA.ex h.ex (fun h0 b hb x => by have := hAN h0 b hb; have := (hX0 b x).1; omega), hS.ex h.ex (fun h0 b hb x => by have := hSN h0 b hb; have := (hX0 b x).1; omega), (h.ex.block _ (lt_blk hl) hXl).trans hl, (h.ex.block _ (lt_blk hs) hXs).trans hs⟩))
  have HJ := Lib.hid hJ
  have HP := Lib.hid (And.intro hp hps)
  have HCan := Lib.hid hcan
  have H0 := Lib.hid h0
  have HLen := Lib.hid (And.intro hA.len hS.len)
  have hls := lt_blk hs
  have cl := (cell_one hl).1
  have hm63 := hA.n63
  have hs63 := hS.n63
  have HCnt := Lib.hid hcnt
  clear hJ hp hps hcan h0 hX0 hAN hSN hl hs hXl hXs hA hS hcnt
  unfold ptr
  go_enter Try.func103, Try.ntmps103
  go_wp2_with fail
  go_loopw [11] (fun ti wr => ∃ (k : Nat) (ps : List (Lt × Bool)) (X : Nat → Prop), k ≤ n ∧ ti = .int .i64 k ∧ Hid (J ps X wr) ∧ Hid (PW W1 X0 wr X) ∧ Hid (Parts s (U (l.take k)) ps) ∧ Hid (∀ p ∈ ps, on p.2 = true) ∧ Hid (ps.length ≤ k * (2 * ns + 1))) (fun ti _ => n - (intOf ti).toNat)
  case atStart => exact ⟨0, [], X0, Nat.zero_le _, rfl, H0.out, ⟨Ex.refl _ _, fun i hi => .inl hi⟩, Parts.start s, show ∀ p ∈ _, _ by simp, show _ ≤ _ by simp⟩
  case round =>
    obtain ⟨k, ps, X, hk, rfl, hJk, hW, hPt, hall, hlen⟩ := hrel
    obtain ⟨hAr, hSr, hlr, hsr⟩ := HAt.out _ _ hW.out
    by_cases hlt : k < n
    · obtain ⟨b, o, x, rfl, hb, hx, hwx, c0, c1, c2⟩ := hAr.get hlt
      have hkI : (k : Int) < (n : Int) := by omega
      have hpx := HP.out.1 x (List.mem_of_getElem? hx)
      have HX := Lib.hid hx
      have hxx := possB_iff.1 hpx
      have hXlt := HJ.out.lt _ _ _ hJk.out
      obtain ⟨w2, hw2⟩ : ∃ w2, wr.alloc (.cells #[.int .i64 x.1, .int .i64 x.2.1, .int .i64 x.2.2] 39) = w2 := ⟨_, rfl⟩
      have hE2 : E wr w2 := by rw [← hw2]; exact (E.refl wr).alloc _
      have hbx : w2.heap[wr.heap.size]? = some (.cells #[.int .i64 x.1, .int .i64 x.2.1, .int .i64 x.2.2] 39 (0, 0)) := by rw [← hw2]; exact heap_alloc_new _ _
      obtain ⟨Bx, hBx⟩ : ∃ Bx, wr.heap.size = Bx := ⟨_, rfl⟩
      have hB1 : W1.heap.size ≤ Bx := by rw [← hBx]; exact hW.out.ex.size
      have hnX : ¬ X Bx := fun h => by have := (hXlt _ h).2; omega
      have hW2 : PW W1 X0 w2 X := hW.out.step (Ex.of_e hE2) (fun i hi => .inl hi)
      have hJ2 := HJ.out.keep _ _ _ w2 hJk.out (fun i hi => hE2.block (hXlt i hi).2)
      rw [hBx] at hbx
      obtain ⟨_, hS2, _, hs2⟩ := HAt.out _ _ hW2
      have HSr := Lib.hid (search_c Bs Bx As ns cs s x w2 hS2 (by omega) hs2 hbx HCan.out HP.out.2)
      have HW2 := Lib.hid hw2
      have HPW2 := Lib.hid hW2
      have HJ2 := Lib.hid hJ2
      have HBX := Lib.hid hbx
      have HNX := Lib.hid hnX
      have HPX := Lib.hid (And.intro hpx hxx)
      have cs2 := (cell_one hs2).1
      clear hx hpx hXlt hw2 hW2 hJ2 hJk hW hbx hnX hS2 hs2 hAr hSr hlr hsr hxx
      obtain ⟨f, a0, m0⟩ := x
      simp only at c0 c1 c2 HBX HW2
      unfold ptr at HSr
      go_upto_region 3 with fail
      rw [HW2.out]
      clear HW2 hBx
      go_wp2_with fail
      refine HSr.out.mono ?_
      rintro e w3 ⟨i0, rfl, hAt, hE3⟩
      have HJ3 := Lib.hid (HJ.out.keep _ _ _ w3 HJ2.out (fun i hi => hE3.block (HJ.out.lt _ _ _ HJ2.out i hi).2))
      have HPW3 := Lib.hid (HPW2.out.step (Ex.of_e hE3) (fun i hi => .inl hi))
      have hbx3 : w3.heap[Bx]? = some (.cells #[.int .i64 f, .int .i64 a0, .int .i64 m0] 39 (0, 0)) := (hE3.block (lt_blk HBX.out)).trans HBX.out
      have HAt0 := Lib.hid hAt
      have hi0 : i0 ≤ ns := by rw [← HLen.out.2]; exact hAt.1
      clear HJ2 HPW2 HBX hE3 hAt HSr c0 c1 c2 hb cs2
      go_wp2_with fail
      go_loopw [6] (fun ti wx => ∃ (i : Nat) (ps : List (Lt × Bool)) (X : Nat → Prop) (a m : Int), i ≤ ns ∧ ti = .int .i64 i ∧ wx.heap[Bx]? = some (.cells #[.int .i64 f, .int .i64 a, .int .i64 m] 39 (0, 0)) ∧ Hid (J ps X wx) ∧ Hid (PW W1 X0 wx X) ∧ Hid (Parts s (U (l.take k) ++ ul (f, a0, a - a0)) ps) ∧ Hid (∀ p ∈ ps, on p.2 = true) ∧ Hid (ps.length + 2 * (ns - i) + 1 ≤ (k + 1) * (2 * ns + 1)) ∧ Hid (¬ X Bx) ∧
        Hid (a0 ≤ a ∧ 0 ≤ m ∧ a + m = a0 + m0) ∧ Hid (0 < m → AtPlace s f a i)) (fun ti _ => ns - (intOf ti).toNat)
      case atStart =>
        refine ⟨i0, ps, X, a0, m0, hi0, rfl, hbx3, HJ3.out, HPW3.out, ?_, hall, ?_, HNX.out, ?_, fun _ => HAt0.out⟩
        · show Parts s _ ps
          rw [show ul (f, a0, a0 - a0) = [] from ul_none (by simp), List.append_nil]
          exact hPt.out
        · show _ ≤ _
          have := hlen.out
          rw [Nat.add_mul]; omega
        · exact ⟨Int.le_refl _, by have := HPX.out.2; (try simp only at this); omega, rfl⟩
      case round =>
        clear hbx3 HJ3 HPW3 HAt0 hi0 hPt hall hlen HNX
        obtain ⟨i, ps, X, a, m, hi, rfl, hbx, hJi, hPW, hPt, hall, hlen, hnX, ham, hat⟩ := hrel
        obtain ⟨f0, f1, f2, g1, g2⟩ := cells3_of hbx
        obtain ⟨_, hSx, _, hsx⟩ := HAt.out _ _ hPW.out
        have csx := (cell_one hsx).1
        have hxx := HPX.out.2
        try simp only at hxx
        have hAM := ham.out
        have hwrA : IntKind.i64.wrap (a + m) = a + m := by rw [IntKind.wrap_i64]; omega
        by_cases hm : 0 < m
        · have dm : decide (0 < m) = true := by simpa using hm
          by_cases hin : i < ns
          · have din : decide (i < ns) = true := by simpa using hin
            have hinI : (i : Int) < (ns : Int) := by omega
            obtain ⟨bs, os, y, rfl, hbs, hy, hwy, e0, e1, e2⟩ := hSx.get hin
            have hyy := possB_iff.1 (HP.out.2 y (List.mem_of_getElem? hy))
            have HY := Lib.hid hy
            have hwrY : IntKind.i64.wrap (y.2.1 + y.2.2) = y.2.1 + y.2.2 := by rw [IntKind.wrap_i64]; omega
            by_cases hf : y.1 = f
            · have df : (y.1 == f) = true := by simpa using hf
              by_cases hya : y.2.1 < a + m
              · have dya : decide (y.2.1 < a + m) = true := by simpa using hya
                obtain ⟨g, d, q⟩ := y
                simp only at e0 e1 e2 hyy hwrY df dya hf hya
                have HGF := Lib.hid hf
                have HDYA := Lib.hid dya
                clear hy hf
                clear hAM
                go_upto_region 4 with fail
                (refine wp_region_quiet_lit (by kernel_rfl) (by kernel_rfl) ?_; (repeat (first | ((with_reducible refine wpQuiet_step (fun K hK => ?_)); go_simp; (with_reducible refine hK _ ?_); clear hK K) | ((with_reducible refine wpQuiet_off (by kernel_rfl) (fun K hK => ?_)); go_simp; (with_reducible refine hK _ ?_); clear hK K))); (with_reducible refine wpQuiet_nil ?_); intro _ hw'; obtain ⟨nq, hw''⟩ := hw'; subst hw'')
                try rw [HDYA.out]
                have hAM := ham.out
                obtain ⟨w4, hw4⟩ : ∃ w4, wr.drewN nq = w4 := ⟨_, rfl⟩
                rw [hw4]
                have HCB := Lib.hid (show (k + 1) * (2 * ns + 1) ≤ 300000 from Nat.le_trans (Nat.mul_le_mul_right _ (by omega)) HCnt.out)
                have hEw4 : E wr w4 := by rw [← hw4]; exact (E.refl wr).drewN nq
                clear hw4
                have hJ4 := HJ.out.keep _ _ _ w4 hJi.out (fun j hj => hEw4.block (HJ.out.lt _ _ _ hJi.out j hj).2)
                have HPW4a := Lib.hid (hPW.out.step (Ex.of_e hEw4) (fun j hj => .inl hj))
                have hbx4 : w4.heap[Bx]? = _ := (hEw4.block (lt_blk hbx)).trans hbx
                have HBX4 := Lib.hid hbx4
                have HJ4 := Lib.hid hJ4
                clear f0 f1 f2 g1 g2 csx e0 e1 e2 hSx hsx hbx hJ4
                obtain ⟨f0, f1, f2, g1, g2⟩ := cells3_of hbx4
                obtain ⟨_, hS4, _, hs4⟩ := HAt.out _ _ HPW4a.out
                have csx := (cell_one hs4).1
                obtain ⟨bs', os', y', eA, _, hy', _, e0, e1, e2⟩ := hS4.get hin
                injection eA with eA; injection eA with eA1 eA2; subst eA1 eA2
                rw [HY.out] at hy'
                injection hy' with hy'
                subst hy'
                simp only at e0 e1 e2
                have hend : a < d + q := by
                  have h1 := (hat.out hm).from_ (Nat.le_refl i) HY.out
                  have h2 := HGF.out
                  simp only at h1
                  omega
                have hwr6 : IntKind.i64.wrap (d - a) = d - a := by rw [IntKind.wrap_i64]; omega
                obtain ⟨ov, hov⟩ : ∃ ov, max 0 (d - a) = ov := ⟨_, rfl⟩
                have HOV := Lib.hid hov
                have HOV2 := Lib.hid (show (if 0 < d - a then d - a else 0) = ov by split <;> omega)
                have hovr : 0 ≤ ov ∧ (ov = 0 ∧ d ≤ a ∨ ov = d - a ∧ 0 < ov) := by omega
                clear hov hbx4 hS4 hs4 hEw4
                go_upto_region 6 with fail
                (refine wp_region_quiet_lit (by kernel_rfl) (by kernel_rfl) ?_; (repeat (first | ((with_reducible refine wpQuiet_step (fun K hK => ?_)); go_simp; (with_reducible refine hK _ ?_); clear hK K) | ((with_reducible refine wpQuiet_off (by kernel_rfl) (fun K hK => ?_)); go_simp; (with_reducible refine hK _ ?_); clear hK K))); (with_reducible refine wpQuiet_nil ?_); intro _ hw'; obtain ⟨nq, hw''⟩ := hw'; subst hw'')
                first | rw [HOV.out] | rw [HOV2.out]
                obtain ⟨w5, hw5⟩ : ∃ w5, w4.drewN nq = w5 := ⟨_, rfl⟩
                have hE5 : E w4 w5 := by rw [← hw5]; exact (E.refl w4).drewN nq
                rw [hw5]
                have hJ5 := HJ.out.keep _ _ _ w5 HJ4.out (fun j hj => hE5.block (HJ.out.lt _ _ _ HJ4.out j hj).2)
                have HPW4 := Lib.hid (HPW4a.out.step (Ex.of_e hE5) (fun j hj => .inl hj))
                have hbx5 : w5.heap[Bx]? = _ := (hE5.block (lt_blk HBX4.out)).trans HBX4.out
                clear f0 f1 f2 g1 g2 csx e0 e1 e2 hw5 hE5 HPW4a HBX4 HJ4
                obtain ⟨f0, f1, f2, g1, g2⟩ := cells3_of hbx5
                by_cases hz : 0 < ov
                · have dz : decide (0 < ov) = true := by simpa using hz
                  have hPSo := hPt.out.out_ (x := (f, a, ov)) (by simp only; omega) ((hat.out hm).gap HCan.out (fun z hz' => by rw [HY.out] at hz'; injection hz' with hz'; subst hz'; right; simp only; omega))
                  have hcut := ul_cut (f := f) (a := a0) (n := a + ov - a0) (k := a - a0) (by omega) (by omega)
                  rw [show a0 + (a - a0) = a by omega, show a + ov - a0 - (a - a0) = ov by omega] at hcut
                  have HPS := Lib.hid (show Parts s (U (l.take k) ++ ul (f, a0, a + ov - a0)) (ps ++ [((f, a, ov), false)]) by rw [hcut, ← List.append_assoc]; exact hPSo)
                  have HUS := Lib.hid (show ∀ u ∈ U (l.take k) ++ ul (f, a0, a + ov - a0), u ∈ U l from fun u hu => by
                    rcases List.mem_append.1 hu with hu | hu
                    · obtain ⟨z, hz, hu⟩ := mem_U.1 hu; exact mem_U.2 ⟨z, List.mem_of_mem_take hz, hu⟩
                    · refine mem_U.2 ⟨_, List.mem_of_getElem? HX.out, ?_⟩
                      have := mem_ul.1 hu
                      exact mem_ul.2 ⟨this.1, this.2.1, by simp only at this ⊢; omega⟩)
                  have HBX5 := Lib.hid hbx5
                  clear hPSo hcut hbx5
                  go_upto_region 7 with fail
                  cases hof : on false
                  · obtain ⟨fn, tmps, assign, body, hyl, hR⟩ := HJ.out.stop _ _ _ (f, a, ov) false 2 hof hJ5 (by have h1 := hlen.out; have h2 := HCB.out; omega) (possB_iff.2 (by simp only; omega)) ⟨hwx.1, wf_of_i64 (by simp only; omega) (by simp only; omega), wf_of_i64 (by simp only; omega) (by simp only; omega)⟩
                    unfold ltV at hyl
                    simp only at hyl
                    refine (wpIn_wide (n := 3)).1 ?_
                    gi_wp2
                    refine hR.mono ?_
                    rintro e w6 ⟨rfl, X6, hJ6, hXn, hXXn⟩
                    clear hR hyl
                    gi_wp2
                    go_wp2_with fail
                    refine bodyPost_ret (results_none rfl _ _ _) rfl ?_
                    exact ⟨⟨_, rfl⟩, _, _, _, HPS.out, .inr ⟨hJ6, HUS.out, _, List.mem_append_right _ (List.mem_singleton.2 rfl), hof⟩, (HPW4.out.step hXn hXXn).ex, (HPW4.out.step hXn hXXn).xx⟩
                  · obtain ⟨fn, tmps, assign, body, hyl, hR⟩ := HJ.out.go _ _ _ (f, a, ov) false 2 hof hJ5 (by have h1 := hlen.out; have h2 := HCB.out; omega) (possB_iff.2 (by simp only; omega)) ⟨hwx.1, wf_of_i64 (by simp only; omega) (by simp only; omega), wf_of_i64 (by simp only; omega) (by simp only; omega)⟩
                    unfold ltV at hyl
                    simp only at hyl
                    refine (wpIn_wide (n := 3)).1 ?_
                    gi_wp2
                    refine hR.mono ?_
                    rintro e w6 ⟨rfl, X6, hJ6, hXn, hXXn⟩
                    clear hR hyl
                    gi_wp2
                    have hbx6 : w6.heap[Bx]? = _ := (hXn.block _ (lt_blk HBX5.out) hnX.out).trans HBX5.out
                    have hnX6 : ¬ X6 Bx := fun hh => by
                      rcases hXXn _ hh with h1 | h1
                      · exact hnX.out h1
                      · have := lt_blk HBX5.out; omega
                    have HPW6 := Lib.hid (HPW4.out.step hXn hXXn)
                    have HP6 := Lib.hid HPS.out
                    have hall6 := Lib.hid (show ∀ p ∈ ps ++ [((f, a, ov), false)], on p.2 = true from fun p hp => by
                      rcases List.mem_append.1 hp with hp | hp
                      · exact hall.out p hp
                      · rw [List.mem_singleton] at hp; subst hp; exact hof)
                    have hl6 := Lib.hid (show (ps ++ [((f, a, ov), false)]).length ≤ ps.length + 1 by simp)
                    have at6 := Lib.hid (show AtPlace s f (a + ov) i from (hat.out hm).upto (by omega) (fun z hz' => by rw [HY.out] at hz'; injection hz' with hz'; subst hz'; exact ⟨HGF.out, by simp only; omega⟩) HCan.out)
                    clear hXn hXXn hJ5 HBX5 HPS HUS HPW4
                    clear f0 f1 f2 g1 g2
                    obtain ⟨f0, f1, f2, g1, g2⟩ := cells3_of hbx6
                    have hwr8 : IntKind.i64.wrap (a + ov) = a + ov := by rw [IntKind.wrap_i64]; omega
                    have hwr9 : IntKind.i64.wrap (m - ov) = m - ov := by rw [IntKind.wrap_i64]; omega
                    have hbx7 := set12 (y' := .int .i64 (a + ov)) (z' := .int .i64 (m - ov)) hbx6
                    have hX7 : Ex (fun j => j = Bx) w6 ((w6.setCell ⟨Bx, 1, none⟩ (.int .i64 (a + ov))).setCell ⟨Bx, 2, none⟩ (.int .i64 (m - ov))) := ((Ex.refl (fun j => j = Bx) w6).setCell ⟨Bx, 1, none⟩ (.inr rfl) _).setCell ⟨Bx, 2, none⟩ (.inr rfl) _
                    have hJ7 := Lib.hid (HJ.out.keep _ _ _ _ hJ6 (fun j hj => hX7.block j (HJ.out.lt _ _ _ hJ6 j hj).2 (fun e => hnX6 (e ▸ hj))))
                    have HPW7 := Lib.hid (HPW6.out.own hB1 hX7)
                    have HBX7 := Lib.hid hbx7
                    have hnX6' := Lib.hid hnX6
                    clear hbx7 hX7 hJ6 hbx6 hnX6
                    go_upto_region 9 with fail
                    obtain ⟨w7, hw7⟩ : ∃ w7, (w6.setCell ⟨Bx, 1, none⟩ (.int .i64 (a + ov))).setCell ⟨Bx, 2, none⟩ (.int .i64 (m - ov)) = w7 := ⟨_, rfl⟩
                    rw [hw7] at hJ7 HPW7 HBX7 ⊢
                    clear hw7 f0 f1 f2 g1 g2
                    obtain ⟨_, hS7, _, hs7⟩ := HAt.out _ _ HPW7.out
                    have csx := (cell_one hs7).1
                    obtain ⟨f0, f1, f2, g1, g2⟩ := cells3_of HBX7.out
                    obtain ⟨bs', os', y', eA, _, hy', _, e0, e1, e2⟩ := hS7.get hin
                    injection eA with eA; injection eA with eA1 eA2; subst eA1 eA2
                    rw [HY.out] at hy'
                    injection hy' with hy'
                    subst hy'
                    simp only at e0 e1 e2
                    have hwr10 : IntKind.i64.wrap (d + q - (a + ov)) = d + q - (a + ov) := by rw [IntKind.wrap_i64]; omega
                    obtain ⟨iv, hiv⟩ : ∃ iv, min (m - ov) (d + q - (a + ov)) = iv := ⟨_, rfl⟩
                    have HIV := Lib.hid hiv
                    have HIV2 := Lib.hid (show (if d + q - (a + ov) < m - ov then d + q - (a + ov) else m - ov) = iv by split <;> omega)
                    have hivr : 1 ≤ iv ∧ iv ≤ m - ov ∧ iv ≤ d + q - (a + ov) := by omega
                    have hivc : iv = m - ov ∨ iv = d + q - (a + ov) := by omega
                    clear hiv hS7 hs7
                    (refine wp_region_quiet_lit (by kernel_rfl) (by kernel_rfl) ?_; (repeat (first | ((with_reducible refine wpQuiet_step (fun K hK => ?_)); go_simp; (with_reducible refine hK _ ?_); clear hK K) | ((with_reducible refine wpQuiet_off (by kernel_rfl) (fun K hK => ?_)); go_simp; (with_reducible refine hK _ ?_); clear hK K))); (with_reducible refine wpQuiet_nil ?_); intro _ hw'; obtain ⟨nq, hw''⟩ := hw'; subst hw'')
                    first | rw [HIV.out] | rw [HIV2.out]
                    obtain ⟨w8, hw8⟩ : ∃ w8, w7.drewN nq = w8 := ⟨_, rfl⟩
                    have hE8 : E w7 w8 := by rw [← hw8]; exact (E.refl w7).drewN nq
                    rw [hw8]
                    have hJ8 := HJ.out.keep _ _ _ w8 hJ7.out (fun j hj => hE8.block (HJ.out.lt _ _ _ hJ7.out j hj).2)
                    have HPW8 := Lib.hid (HPW7.out.step (Ex.of_e hE8) (fun j hj => .inl hj))
                    have hbx8 : w8.heap[Bx]? = _ := (hE8.block (lt_blk HBX7.out)).trans HBX7.out
                    clear f0 f1 f2 g1 g2 csx e0 e1 e2 hw8 hE8 hJ7 HPW7 HBX7
                    obtain ⟨f0, f1, f2, g1, g2⟩ := cells3_of hbx8
                    have HBX8 := Lib.hid hbx8
                    clear hbx8
                    go_upto_region 10 with fail
                    obtain ⟨fn, tmps, assign, body, hyl, hR⟩ := HJ.out.go _ _ _ (f, a + ov, iv) true 2 hon hJ8 (by have h1 := hlen.out; have h2 := HCB.out; have h3 := hl6.out; omega) (possB_iff.2 (by simp only; omega)) ⟨hwx.1, wf_of_i64 (by simp only; omega) (by simp only; omega), wf_of_i64 (by simp only; omega) (by simp only; omega)⟩
                    unfold ltV at hyl
                    simp only at hyl
                    refine (wpIn_wide (n := 3)).1 ?_
                    gi_wp2
                    refine hR.mono ?_
                    rintro e w9 ⟨rfl, X9, hJ9, hXn, hXXn⟩
                    clear hR hyl
                    gi_wp2
                    have hbx9 : w9.heap[Bx]? = _ := (hXn.block _ (lt_blk HBX8.out) hnX6'.out).trans HBX8.out
                    have hnX9 : ¬ X9 Bx := fun hh => by
                      rcases hXXn _ hh with h1 | h1
                      · exact hnX6'.out h1
                      · have := lt_blk HBX8.out; omega
                    have HPW9 := Lib.hid (HPW8.out.step hXn hXXn)
                    clear f0 f1 f2 g1 g2 hJ8 hXn hXXn
                    obtain ⟨f0, f1, f2, g1, g2⟩ := cells3_of hbx9
                    have hwr11 : IntKind.i64.wrap (a + ov + iv) = a + ov + iv := by rw [IntKind.wrap_i64]; omega
                    have hwr12 : IntKind.i64.wrap (m - ov - iv) = m - ov - iv := by rw [IntKind.wrap_i64]; omega
                    have hbxA := Lib.hid (set12 (y' := .int .i64 (a + ov + iv)) (z' := .int .i64 (m - ov - iv)) hbx9)
                    have hXA : Ex (fun j => j = Bx) w9 ((w9.setCell ⟨Bx, 1, none⟩ (.int .i64 (a + ov + iv))).setCell ⟨Bx, 2, none⟩ (.int .i64 (m - ov - iv))) := ((Ex.refl (fun j => j = Bx) w9).setCell ⟨Bx, 1, none⟩ (.inr rfl) _).setCell ⟨Bx, 2, none⟩ (.inr rfl) _
                    have hJA := Lib.hid (HJ.out.keep _ _ _ _ hJ9 (fun j hj => hXA.block j (HJ.out.lt _ _ _ hJ9 j hj).2 (fun e => hnX9 (e ▸ hj))))
                    have HPWA := Lib.hid (HPW9.out.own hB1 hXA)
                    have HPTA := Lib.hid (show Parts s (U (l.take k) ++ ul (f, a0, a + ov + iv - a0)) ((ps ++ [((f, a, ov), false)]) ++ [((f, a + ov, iv), true)]) by
                      have hq := HP6.out.in_ (x := (f, a + ov, iv)) (by simp only; omega) (AtPlace.inside HY.out HGF.out (by simp only; omega) (by simp only; omega))
                      have he := ul_cut (f := f) (a := a0) (n := a + ov + iv - a0) (k := a + ov - a0) (by omega) (by omega)
                      rw [show a0 + (a + ov - a0) = a + ov by omega, show a + ov + iv - a0 - (a + ov - a0) = iv by omega] at he
                      rw [he, ← List.append_assoc]; exact hq)
                    have hallA := Lib.hid (show ∀ p ∈ (ps ++ [((f, a, ov), false)]) ++ [((f, a + ov, iv), true)], on p.2 = true from fun p hp => by
                      rcases List.mem_append.1 hp with hp | hp
                      · exact hall6.out p hp
                      · rw [List.mem_singleton] at hp; subst hp; exact hon)
                    have hlenA := Lib.hid (show ((ps ++ [((f, a, ov), false)]) ++ [((f, a + ov, iv), true)]).length + 2 * (ns - (i + 1)) + 1 ≤ (k + 1) * (2 * ns + 1) by
                      rw [List.length_append, List.length_singleton]; have h1 := hlen.out; have h3 := hl6.out; omega)
                    have hnXA := Lib.hid hnX9
                    have hamA := Lib.hid (show a0 ≤ a + ov + iv ∧ 0 ≤ m - ov - iv ∧ a + ov + iv + (m - ov - iv) = a0 + m0 by omega)
                    have hatA := Lib.hid (show 0 < m - ov - iv → AtPlace s f (a + ov + iv) (i + 1) from fun hh => at6.out.next HY.out HGF.out (by simp only; omega) HCan.out)
                    clear hbx9 hnX9 hXA hJ9 HPW9 HP6 hall6 hl6 at6 hall hlen ham hat hnX hJi hPW hPt
                    go_wp2_with fail
                    first
                      | exact ⟨⟨i + 1, _, _, _, _, by omega, by go_num, hbxA.out, hJA.out, HPWA.out, HPTA.out, hallA.out, hlenA.out, hnXA.out, hamA.out, hatA.out⟩, by simp [intOf]; omega⟩
                      | (go_roundw
                         case rel => exact ⟨i + 1, _, _, _, _, by omega, by go_num, hbxA.out, hJA.out, HPWA.out, HPTA.out, hallA.out, hlenA.out, hnXA.out, hamA.out, hatA.out⟩
                         case measure => simp [intOf]; omega)
                · have dz : decide (0 < ov) = false := by simpa using hz
                  have hov0 : ov = 0 := by omega
                  have HPW6 := HPW4
                  have HP6 := Lib.hid (show Parts s (U (l.take k) ++ ul (f, a0, a + ov - a0)) ps by rw [hov0, Int.add_zero]; exact hPt.out)
                  have hall6 := hall
                  have hl6 := Lib.hid (show ps.length ≤ ps.length + 1 by omega)
                  have at6 := Lib.hid (show AtPlace s f (a + ov) i by rw [hov0, Int.add_zero]; exact hat.out hm)
                  have hnX6 := hnX.out
                  have hJ6 := hJ5
                  have hbx6 := hbx5
                  clear hov0 hJ5 hbx5 HPW4
                  obtain ⟨w6, hw6⟩ : ∃ w6, w6 = w5 := ⟨_, rfl⟩
                  subst hw6
                  clear f0 f1 f2 g1 g2
                  obtain ⟨f0, f1, f2, g1, g2⟩ := cells3_of hbx6
                  have hwr8 : IntKind.i64.wrap (a + ov) = a + ov := by rw [IntKind.wrap_i64]; omega
                  have hwr9 : IntKind.i64.wrap (m - ov) = m - ov := by rw [IntKind.wrap_i64]; omega
                  have hbx7 := set12 (y' := .int .i64 (a + ov)) (z' := .int .i64 (m - ov)) hbx6
                  have hX7 : Ex (fun j => j = Bx) w6 ((w6.setCell ⟨Bx, 1, none⟩ (.int .i64 (a + ov))).setCell ⟨Bx, 2, none⟩ (.int .i64 (m - ov))) := ((Ex.refl (fun j => j = Bx) w6).setCell ⟨Bx, 1, none⟩ (.inr rfl) _).setCell ⟨Bx, 2, none⟩ (.inr rfl) _
                  have hJ7 := Lib.hid (HJ.out.keep _ _ _ _ hJ6 (fun j hj => hX7.block j (HJ.out.lt _ _ _ hJ6 j hj).2 (fun e => hnX6 (e ▸ hj))))
                  have HPW7 := Lib.hid (HPW6.out.own hB1 hX7)
                  have HBX7 := Lib.hid hbx7
                  have hnX6' := Lib.hid hnX6
                  clear hbx7 hX7 hJ6 hbx6 hnX6
                  go_upto_region 9 with fail
                  obtain ⟨w7, hw7⟩ : ∃ w7, (w6.setCell ⟨Bx, 1, none⟩ (.int .i64 (a + ov))).setCell ⟨Bx, 2, none⟩ (.int .i64 (m - ov)) = w7 := ⟨_, rfl⟩
                  rw [hw7] at hJ7 HPW7 HBX7 ⊢
                  clear hw7 f0 f1 f2 g1 g2
                  obtain ⟨_, hS7, _, hs7⟩ := HAt.out _ _ HPW7.out
                  have csx := (cell_one hs7).1
                  obtain ⟨f0, f1, f2, g1, g2⟩ := cells3_of HBX7.out
                  obtain ⟨bs', os', y', eA, _, hy', _, e0, e1, e2⟩ := hS7.get hin
                  injection eA with eA; injection eA with eA1 eA2; subst eA1 eA2
                  rw [HY.out] at hy'
                  injection hy' with hy'
                  subst hy'
                  simp only at e0 e1 e2
                  have hwr10 : IntKind.i64.wrap (d + q - (a + ov)) = d + q - (a + ov) := by rw [IntKind.wrap_i64]; omega
                  obtain ⟨iv, hiv⟩ : ∃ iv, min (m - ov) (d + q - (a + ov)) = iv := ⟨_, rfl⟩
                  have HIV := Lib.hid hiv
                  have HIV2 := Lib.hid (show (if d + q - (a + ov) < m - ov then d + q - (a + ov) else m - ov) = iv by split <;> omega)
                  have hivr : 1 ≤ iv ∧ iv ≤ m - ov ∧ iv ≤ d + q - (a + ov) := by omega
                  have hivc : iv = m - ov ∨ iv = d + q - (a + ov) := by omega
                  clear hiv hS7 hs7
                  (refine wp_region_quiet_lit (by kernel_rfl) (by kernel_rfl) ?_; (repeat (first | ((with_reducible refine wpQuiet_step (fun K hK => ?_)); go_simp; (with_reducible refine hK _ ?_); clear hK K) | ((with_reducible refine wpQuiet_off (by kernel_rfl) (fun K hK => ?_)); go_simp; (with_reducible refine hK _ ?_); clear hK K))); (with_reducible refine wpQuiet_nil ?_); intro _ hw'; obtain ⟨nq, hw''⟩ := hw'; subst hw'')
                  first | rw [HIV.out] | rw [HIV2.out]
                  obtain ⟨w8, hw8⟩ : ∃ w8, w7.drewN nq = w8 := ⟨_, rfl⟩
                  have hE8 : E w7 w8 := by rw [← hw8]; exact (E.refl w7).drewN nq
                  rw [hw8]
                  have hJ8 := HJ.out.keep _ _ _ w8 hJ7.out (fun j hj => hE8.block (HJ.out.lt _ _ _ hJ7.out j hj).2)
                  have HPW8 := Lib.hid (HPW7.out.step (Ex.of_e hE8) (fun j hj => .inl hj))
                  have hbx8 : w8.heap[Bx]? = _ := (hE8.block (lt_blk HBX7.out)).trans HBX7.out
                  clear f0 f1 f2 g1 g2 csx e0 e1 e2 hw8 hE8 hJ7 HPW7 HBX7
                  obtain ⟨f0, f1, f2, g1, g2⟩ := cells3_of hbx8
                  have HBX8 := Lib.hid hbx8
                  clear hbx8
                  go_upto_region 10 with fail
                  obtain ⟨fn, tmps, assign, body, hyl, hR⟩ := HJ.out.go _ _ _ (f, a + ov, iv) true 2 hon hJ8 (by have h1 := hlen.out; have h2 := HCB.out; have h3 := hl6.out; omega) (possB_iff.2 (by simp only; omega)) ⟨hwx.1, wf_of_i64 (by simp only; omega) (by simp only; omega), wf_of_i64 (by simp only; omega) (by simp only; omega)⟩
                  unfold ltV at hyl
                  simp only at hyl
                  refine (wpIn_wide (n := 3)).1 ?_
                  gi_wp2
                  refine hR.mono ?_
                  rintro e w9 ⟨rfl, X9, hJ9, hXn, hXXn⟩
                  clear hR hyl
                  gi_wp2
                  have hbx9 : w9.heap[Bx]? = _ := (hXn.block _ (lt_blk HBX8.out) hnX6'.out).trans HBX8.out
                  have hnX9 : ¬ X9 Bx := fun hh => by
                    rcases hXXn _ hh with h1 | h1
                    · exact hnX6'.out h1
                    · have := lt_blk HBX8.out; omega
                  have HPW9 := Lib.hid (HPW8.out.step hXn hXXn)
                  clear f0 f1 f2 g1 g2 hJ8 hXn hXXn
                  obtain ⟨f0, f1, f2, g1, g2⟩ := cells3_of hbx9
                  have hwr11 : IntKind.i64.wrap (a + ov + iv) = a + ov + iv := by rw [IntKind.wrap_i64]; omega
                  have hwr12 : IntKind.i64.wrap (m - ov - iv) = m - ov - iv := by rw [IntKind.wrap_i64]; omega
                  have hbxA := Lib.hid (set12 (y' := .int .i64 (a + ov + iv)) (z' := .int .i64 (m - ov - iv)) hbx9)
                  have hXA : Ex (fun j => j = Bx) w9 ((w9.setCell ⟨Bx, 1, none⟩ (.int .i64 (a + ov + iv))).setCell ⟨Bx, 2, none⟩ (.int .i64 (m - ov - iv))) := ((Ex.refl (fun j => j = Bx) w9).setCell ⟨Bx, 1, none⟩ (.inr rfl) _).setCell ⟨Bx, 2, none⟩ (.inr rfl) _
                  have hJA := Lib.hid (HJ.out.keep _ _ _ _ hJ9 (fun j hj => hXA.block j (HJ.out.lt _ _ _ hJ9 j hj).2 (fun e => hnX9 (e ▸ hj))))
                  have HPWA := Lib.hid (HPW9.out.own hB1 hXA)
                  have HPTA := Lib.hid (show Parts s (U (l.take k) ++ ul (f, a0, a + ov + iv - a0)) (ps ++ [((f, a + ov, iv), true)]) by
                    have hq := HP6.out.in_ (x := (f, a + ov, iv)) (by simp only; omega) (AtPlace.inside HY.out HGF.out (by simp only; omega) (by simp only; omega))
                    have he := ul_cut (f := f) (a := a0) (n := a + ov + iv - a0) (k := a + ov - a0) (by omega) (by omega)
                    rw [show a0 + (a + ov - a0) = a + ov by omega, show a + ov + iv - a0 - (a + ov - a0) = iv by omega] at he
                    rw [he, ← List.append_assoc]; exact hq)
                  have hallA := Lib.hid (show ∀ p ∈ ps ++ [((f, a + ov, iv), true)], on p.2 = true from fun p hp => by
                    rcases List.mem_append.1 hp with hp | hp
                    · exact hall6.out p hp
                    · rw [List.mem_singleton] at hp; subst hp; exact hon)
                  have hlenA := Lib.hid (show (ps ++ [((f, a + ov, iv), true)]).length + 2 * (ns - (i + 1)) + 1 ≤ (k + 1) * (2 * ns + 1) by
                    rw [List.length_append, List.length_singleton]; have h1 := hlen.out; have h3 := hl6.out; omega)
                  have hnXA := Lib.hid hnX9
                  have hamA := Lib.hid (show a0 ≤ a + ov + iv ∧ 0 ≤ m - ov - iv ∧ a + ov + iv + (m - ov - iv) = a0 + m0 by omega)
                  have hatA := Lib.hid (show 0 < m - ov - iv → AtPlace s f (a + ov + iv) (i + 1) from fun hh => at6.out.next HY.out HGF.out (by simp only; omega) HCan.out)
                  clear hbx9 hnX9 hXA hJ9 HPW9 HP6 hall6 hl6 at6 hall hlen ham hat hnX hJi hPW hPt
                  go_wp2_with fail
                  first
                    | exact ⟨⟨i + 1, _, _, _, _, by omega, by go_num, hbxA.out, hJA.out, HPWA.out, HPTA.out, hallA.out, hlenA.out, hnXA.out, hamA.out, hatA.out⟩, by simp [intOf]; omega⟩
                    | (go_roundw
                       case rel => exact ⟨i + 1, _, _, _, _, by omega, by go_num, hbxA.out, hJA.out, HPWA.out, HPTA.out, hallA.out, hlenA.out, hnXA.out, hamA.out, hatA.out⟩
                       case measure => simp [intOf]; omega)
              · have dya : decide (y.2.1 < a + m) = false := by simpa using hya
                have HNO := Lib.hid (show ∀ z, s[i]? = some z → z.1 ≠ f ∨ a + m ≤ z.2.1 from fun z hz' => by rw [HY.out] at hz'; injection hz' with hz'; subst hz'; right; omega)
                obtain ⟨g, d, q⟩ := y
                simp only at e0 e1 e2 hyy hwrY df dya
                have HDYA := Lib.hid dya
                clear hy hf hya
                clear hAM
                go_upto_region 4 with fail
                (refine wp_region_quiet_lit (by kernel_rfl) (by kernel_rfl) ?_; (repeat (first | ((with_reducible refine wpQuiet_step (fun K hK => ?_)); go_simp; (with_reducible refine hK _ ?_); clear hK K) | ((with_reducible refine wpQuiet_off (by kernel_rfl) (fun K hK => ?_)); go_simp; (with_reducible refine hK _ ?_); clear hK K))); (with_reducible refine wpQuiet_nil ?_); intro _ hw'; obtain ⟨nq, hw''⟩ := hw'; subst hw'')
                try rw [HDYA.out]
                have hAM := ham.out
                go_upto_region 12 with fail
                have HCB := Lib.hid (show (k + 1) * (2 * ns + 1) ≤ 300000 from Nat.le_trans (Nat.mul_le_mul_right _ (by omega)) HCnt.out)
                obtain ⟨w4, hw4⟩ : ∃ w4, wr.drewN nq = w4 := ⟨_, rfl⟩
                rw [hw4]
                have hEw4 : E wr w4 := by rw [← hw4]; exact (E.refl wr).drewN nq
                clear hw4
                have hJ4 := HJ.out.keep _ _ _ w4 hJi.out (fun j hj => hEw4.block (HJ.out.lt _ _ _ hJi.out j hj).2)
                have HPW4 := Lib.hid (hPW.out.step (Ex.of_e hEw4) (fun j hj => .inl hj))
                have hbx4 : w4.heap[Bx]? = _ := (hEw4.block (lt_blk hbx)).trans hbx
                clear f0 f1 f2 g1 g2 csx hSx hsx hbx hEw4
                obtain ⟨f0, f1, f2, g1, g2⟩ := cells3_of hbx4
                have hPSo := hPt.out.out_ (x := (f, a, m)) (by simp only; omega) ((hat.out hm).gap HCan.out HNO.out)
                have hcut := ul_cut (f := f) (a := a0) (n := m0) (k := a - a0) (by omega) (by omega)
                rw [show a0 + (a - a0) = a by omega, show m0 - (a - a0) = m by omega] at hcut
                have HPS := Lib.hid (show Parts s (U (l.take (k + 1))) (ps ++ [((f, a, m), false)]) by rw [U_take_succ HX.out, U_app, U_one, hcut, ← List.append_assoc]; exact hPSo)
                have HUS := Lib.hid (show ∀ u ∈ U (l.take (k + 1)), u ∈ U l from fun u hu => by
                  obtain ⟨z, hz, hu⟩ := mem_U.1 hu; exact mem_U.2 ⟨z, List.mem_of_mem_take hz, hu⟩)
                clear hPSo hcut hbx4 HNO
                cases hof : on false
                · obtain ⟨fn, tmps, assign, body, hyl, hR⟩ := HJ.out.stop _ _ _ (f, a, m) false 2 hof hJ4 (by have h1 := hlen.out; have h2 := HCB.out; omega) (possB_iff.2 (by simp only; omega)) ⟨hwx.1, wf_of_i64 (by simp only; omega) (by simp only; omega), wf_of_i64 (by simp only; omega) (by simp only; omega)⟩
                  unfold ltV at hyl
                  simp only at hyl
                  refine (wpIn_wide (n := 3)).1 ?_
                  gi_wp2
                  refine hR.mono ?_
                  rintro e w6 ⟨rfl, X6, hJ6, hXn, hXXn⟩
                  clear hR hyl
                  gi_wp2
                  go_wp2_with fail
                  refine bodyPost_ret (results_none rfl _ _ _) rfl ?_
                  exact ⟨⟨_, rfl⟩, _, _, _, HPS.out, .inr ⟨hJ6, HUS.out, _, List.mem_append_right _ (List.mem_singleton.2 rfl), hof⟩, (HPW4.out.step hXn hXXn).ex, (HPW4.out.step hXn hXXn).xx⟩
                · obtain ⟨fn, tmps, assign, body, hyl, hR⟩ := HJ.out.go _ _ _ (f, a, m) false 2 hof hJ4 (by have h1 := hlen.out; have h2 := HCB.out; omega) (possB_iff.2 (by simp only; omega)) ⟨hwx.1, wf_of_i64 (by simp only; omega) (by simp only; omega), wf_of_i64 (by simp only; omega) (by simp only; omega)⟩
                  unfold ltV at hyl
                  simp only at hyl
                  refine (wpIn_wide (n := 3)).1 ?_
                  gi_wp2
                  refine hR.mono ?_
                  rintro e w6 ⟨rfl, X6, hJ6, hXn, hXXn⟩
                  clear hR hyl
                  gi_wp2
                  have HPW6 := Lib.hid (HPW4.out.step hXn hXXn)
                  have HJ6 := Lib.hid hJ6
                  have hall6 := Lib.hid (show ∀ p ∈ ps ++ [((f, a, m), false)], on p.2 = true from fun p hp => by
                    rcases List.mem_append.1 hp with hp | hp
                    · exact hall.out p hp
                    · rw [List.mem_singleton] at hp; subst hp; exact hof)
                  have hl6 := Lib.hid (show (ps ++ [((f, a, m), false)]).length ≤ (k + 1) * (2 * ns + 1) by rw [List.length_append, List.length_singleton]; have h1 := hlen.out; omega)
                  clear hXn hXXn hJ4 hJ6 HPW4 hall hlen ham hat hnX hJi hPW hPt
                  go_wp2_with fail
                  first
                    | exact ⟨⟨k + 1, _, _, by omega, by go_num, HJ6.out, HPW6.out, HPS.out, hall6.out, hl6.out⟩, by simp [intOf]; omega⟩
                    | (go_roundw
                       case rel => exact ⟨k + 1, _, _, by omega, by go_num, HJ6.out, HPW6.out, HPS.out, hall6.out, hl6.out⟩
                       case measure => simp [intOf]; omega)
            · have df : (y.1 == f) = false := by simpa using hf
              have HNO := Lib.hid (show ∀ z, s[i]? = some z → z.1 ≠ f ∨ a + m ≤ z.2.1 from fun z hz' => by rw [HY.out] at hz'; injection hz' with hz'; subst hz'; left; exact hf)
              obtain ⟨g, d, q⟩ := y
              simp only at e0 e1 e2 hyy hwrY df
              clear hy hf
              clear hAM
              go_upto_region 4 with fail
              (refine wp_region_quiet_lit (by kernel_rfl) (by kernel_rfl) ?_; (repeat (first | ((with_reducible refine wpQuiet_step (fun K hK => ?_)); go_simp; (with_reducible refine hK _ ?_); clear hK K) | ((with_reducible refine wpQuiet_off (by kernel_rfl) (fun K hK => ?_)); go_simp; (with_reducible refine hK _ ?_); clear hK K))); (with_reducible refine wpQuiet_nil ?_); intro _ hw'; obtain ⟨nq, hw''⟩ := hw'; subst hw'')
              have hAM := ham.out
              go_upto_region 12 with fail
              have HCB := Lib.hid (show (k + 1) * (2 * ns + 1) ≤ 300000 from Nat.le_trans (Nat.mul_le_mul_right _ (by omega)) HCnt.out)
              obtain ⟨w4, hw4⟩ : ∃ w4, wr.drewN nq = w4 := ⟨_, rfl⟩
              rw [hw4]
              have hEw4 : E wr w4 := by rw [← hw4]; exact (E.refl wr).drewN nq
              clear hw4
              have hJ4 := HJ.out.keep _ _ _ w4 hJi.out (fun j hj => hEw4.block (HJ.out.lt _ _ _ hJi.out j hj).2)
              have HPW4 := Lib.hid (hPW.out.step (Ex.of_e hEw4) (fun j hj => .inl hj))
              have hbx4 : w4.heap[Bx]? = _ := (hEw4.block (lt_blk hbx)).trans hbx
              clear f0 f1 f2 g1 g2 csx hSx hsx hbx hEw4
              obtain ⟨f0, f1, f2, g1, g2⟩ := cells3_of hbx4
              have hPSo := hPt.out.out_ (x := (f, a, m)) (by simp only; omega) ((hat.out hm).gap HCan.out HNO.out)
              have hcut := ul_cut (f := f) (a := a0) (n := m0) (k := a - a0) (by omega) (by omega)
              rw [show a0 + (a - a0) = a by omega, show m0 - (a - a0) = m by omega] at hcut
              have HPS := Lib.hid (show Parts s (U (l.take (k + 1))) (ps ++ [((f, a, m), false)]) by rw [U_take_succ HX.out, U_app, U_one, hcut, ← List.append_assoc]; exact hPSo)
              have HUS := Lib.hid (show ∀ u ∈ U (l.take (k + 1)), u ∈ U l from fun u hu => by
                obtain ⟨z, hz, hu⟩ := mem_U.1 hu; exact mem_U.2 ⟨z, List.mem_of_mem_take hz, hu⟩)
              clear hPSo hcut hbx4 HNO
              cases hof : on false
              · obtain ⟨fn, tmps, assign, body, hyl, hR⟩ := HJ.out.stop _ _ _ (f, a, m) false 2 hof hJ4 (by have h1 := hlen.out; have h2 := HCB.out; omega) (possB_iff.2 (by simp only; omega)) ⟨hwx.1, wf_of_i64 (by simp only; omega) (by simp only; omega), wf_of_i64 (by simp only; omega) (by simp only; omega)⟩
                unfold ltV at hyl
                simp only at hyl
                refine (wpIn_wide (n := 3)).1 ?_
                gi_wp2
                refine hR.mono ?_
                rintro e w6 ⟨rfl, X6, hJ6, hXn, hXXn⟩
                clear hR hyl
                gi_wp2
                go_wp2_with fail
                refine bodyPost_ret (results_none rfl _ _ _) rfl ?_
                exact ⟨⟨_, rfl⟩, _, _, _, HPS.out, .inr ⟨hJ6, HUS.out, _, List.mem_append_right _ (List.mem_singleton.2 rfl), hof⟩, (HPW4.out.step hXn hXXn).ex, (HPW4.out.step hXn hXXn).xx⟩
              · obtain ⟨fn, tmps, assign, body, hyl, hR⟩ := HJ.out.go _ _ _ (f, a, m) false 2 hof hJ4 (by have h1 := hlen.out; have h2 := HCB.out; omega) (possB_iff.2 (by simp only; omega)) ⟨hwx.1, wf_of_i64 (by simp only; omega) (by simp only; omega), wf_of_i64 (by simp only; omega) (by simp only; omega)⟩
                unfold ltV at hyl
                simp only at hyl
                refine (wpIn_wide (n := 3)).1 ?_
                gi_wp2
                refine hR.mono ?_
                rintro e w6 ⟨rfl, X6, hJ6, hXn, hXXn⟩
                clear hR hyl
                gi_wp2
                have HPW6 := Lib.hid (HPW4.out.step hXn hXXn)
                have HJ6 := Lib.hid hJ6
                have hall6 := Lib.hid (show ∀ p ∈ ps ++ [((f, a, m), false)], on p.2 = true from fun p hp => by
                  rcases List.mem_append.1 hp with hp | hp
                  · exact hall.out p hp
                  · rw [List.mem_singleton] at hp; subst hp; exact hof)
                have hl6 := Lib.hid (show (ps ++ [((f, a, m), false)]).length ≤ (k + 1) * (2 * ns + 1) by rw [List.length_append, List.length_singleton]; have h1 := hlen.out; omega)
                clear hXn hXXn hJ4 hJ6 HPW4 hall hlen ham hat hnX hJi hPW hPt
                go_wp2_with fail
                first
                  | exact ⟨⟨k + 1, _, _, by omega, by go_num, HJ6.out, HPW6.out, HPS.out, hall6.out, hl6.out⟩, by simp [intOf]; omega⟩
                  | (go_roundw
                     case rel => exact ⟨k + 1, _, _, by omega, by go_num, HJ6.out, HPW6.out, HPS.out, hall6.out, hl6.out⟩
                     case measure => simp [intOf]; omega)
          · have din : decide (i < ns) = false := by simpa using hin
            have HNO := Lib.hid (show ∀ z, s[i]? = some z → z.1 ≠ f ∨ a + m ≤ z.2.1 from fun z hz' => by have := (List.getElem?_eq_some_iff.1 hz').1; rw [HLen.out.2] at this; omega)
            clear hAM
            go_upto_region 4 with fail
            (refine wp_region_quiet_lit (by kernel_rfl) (by kernel_rfl) ?_; (repeat (first | ((with_reducible refine wpQuiet_step (fun K hK => ?_)); go_simp; (with_reducible refine hK _ ?_); clear hK K) | ((with_reducible refine wpQuiet_off (by kernel_rfl) (fun K hK => ?_)); go_simp; (with_reducible refine hK _ ?_); clear hK K))); (with_reducible refine wpQuiet_nil ?_); intro _ hw'; obtain ⟨nq, hw''⟩ := hw'; subst hw'')
            have hAM := ham.out
            go_upto_region 12 with fail
            have HCB := Lib.hid (show (k + 1) * (2 * ns + 1) ≤ 300000 from Nat.le_trans (Nat.mul_le_mul_right _ (by omega)) HCnt.out)
            obtain ⟨w4, hw4⟩ : ∃ w4, wr.drewN nq = w4 := ⟨_, rfl⟩
            rw [hw4]
            have hEw4 : E wr w4 := by rw [← hw4]; exact (E.refl wr).drewN nq
            clear hw4
            have hJ4 := HJ.out.keep _ _ _ w4 hJi.out (fun j hj => hEw4.block (HJ.out.lt _ _ _ hJi.out j hj).2)
            have HPW4 := Lib.hid (hPW.out.step (Ex.of_e hEw4) (fun j hj => .inl hj))
            have hbx4 : w4.heap[Bx]? = _ := (hEw4.block (lt_blk hbx)).trans hbx
            clear f0 f1 f2 g1 g2 csx hSx hsx hbx hEw4
            obtain ⟨f0, f1, f2, g1, g2⟩ := cells3_of hbx4
            have hPSo := hPt.out.out_ (x := (f, a, m)) (by simp only; omega) ((hat.out hm).gap HCan.out HNO.out)
            have hcut := ul_cut (f := f) (a := a0) (n := m0) (k := a - a0) (by omega) (by omega)
            rw [show a0 + (a - a0) = a by omega, show m0 - (a - a0) = m by omega] at hcut
            have HPS := Lib.hid (show Parts s (U (l.take (k + 1))) (ps ++ [((f, a, m), false)]) by rw [U_take_succ HX.out, U_app, U_one, hcut, ← List.append_assoc]; exact hPSo)
            have HUS := Lib.hid (show ∀ u ∈ U (l.take (k + 1)), u ∈ U l from fun u hu => by
              obtain ⟨z, hz, hu⟩ := mem_U.1 hu; exact mem_U.2 ⟨z, List.mem_of_mem_take hz, hu⟩)
            clear hPSo hcut hbx4 HNO
            cases hof : on false
            · obtain ⟨fn, tmps, assign, body, hyl, hR⟩ := HJ.out.stop _ _ _ (f, a, m) false 2 hof hJ4 (by have h1 := hlen.out; have h2 := HCB.out; omega) (possB_iff.2 (by simp only; omega)) ⟨hwx.1, wf_of_i64 (by simp only; omega) (by simp only; omega), wf_of_i64 (by simp only; omega) (by simp only; omega)⟩
              unfold ltV at hyl
              simp only at hyl
              refine (wpIn_wide (n := 3)).1 ?_
              gi_wp2
              refine hR.mono ?_
              rintro e w6 ⟨rfl, X6, hJ6, hXn, hXXn⟩
              clear hR hyl
              gi_wp2
              go_wp2_with fail
              refine bodyPost_ret (results_none rfl _ _ _) rfl ?_
              exact ⟨⟨_, rfl⟩, _, _, _, HPS.out, .inr ⟨hJ6, HUS.out, _, List.mem_append_right _ (List.mem_singleton.2 rfl), hof⟩, (HPW4.out.step hXn hXXn).ex, (HPW4.out.step hXn hXXn).xx⟩
            · obtain ⟨fn, tmps, assign, body, hyl, hR⟩ := HJ.out.go _ _ _ (f, a, m) false 2 hof hJ4 (by have h1 := hlen.out; have h2 := HCB.out; omega) (possB_iff.2 (by simp only; omega)) ⟨hwx.1, wf_of_i64 (by simp only; omega) (by simp only; omega), wf_of_i64 (by simp only; omega) (by simp only; omega)⟩
              unfold ltV at hyl
              simp only at hyl
              refine (wpIn_wide (n := 3)).1 ?_
              gi_wp2
              refine hR.mono ?_
              rintro e w6 ⟨rfl, X6, hJ6, hXn, hXXn⟩
              clear hR hyl
              gi_wp2
              have HPW6 := Lib.hid (HPW4.out.step hXn hXXn)
              have HJ6 := Lib.hid hJ6
              have hall6 := Lib.hid (show ∀ p ∈ ps ++ [((f, a, m), false)], on p.2 = true from fun p hp => by
                rcases List.mem_append.1 hp with hp | hp
                · exact hall.out p hp
                · rw [List.mem_singleton] at hp; subst hp; exact hof)
              have hl6 := Lib.hid (show (ps ++ [((f, a, m), false)]).length ≤ (k + 1) * (2 * ns + 1) by rw [List.length_append, List.length_singleton]; have h1 := hlen.out; omega)
              clear hXn hXXn hJ4 hJ6 HPW4 hall hlen ham hat hnX hJi hPW hPt
              go_wp2_with fail
              first
                | exact ⟨⟨k + 1, _, _, by omega, by go_num, HJ6.out, HPW6.out, HPS.out, hall6.out, hl6.out⟩, by simp [intOf]; omega⟩
                | (go_roundw
                   case rel => exact ⟨k + 1, _, _, by omega, by go_num, HJ6.out, HPW6.out, HPS.out, hall6.out, hl6.out⟩
                   case measure => simp [intOf]; omega)
        · have dm : decide (0 < m) = false := by simpa using hm
          have hm0 : m = 0 := by omega
          have HPS := Lib.hid (show Parts s (U (l.take (k + 1))) ps by
            rw [U_take_succ HX.out, U_app, U_one, show m0 = a - a0 by omega]; exact hPt.out)
          have hl6 := Lib.hid (show ps.length ≤ (k + 1) * (2 * ns + 1) by have h1 := hlen.out; omega)
          have HJ6 := Lib.hid (HJ.out.keep _ _ _ (wr.drew) hJi.out (fun j hj => rfl))
          have HPW6 := Lib.hid (hPW.out.step (Ex.of_e ((E.refl wr).drew)) (fun j hj => .inl hj))
          clear hm0
          clear hAM
          go_upto_region 4 with fail
          (refine wp_region_quiet_lit (by kernel_rfl) (by kernel_rfl) ?_; (repeat (first | ((with_reducible refine wpQuiet_step (fun K hK => ?_)); go_simp; (with_reducible refine hK _ ?_); clear hK K) | ((with_reducible refine wpQuiet_off (by kernel_rfl) (fun K hK => ?_)); go_simp; (with_reducible refine hK _ ?_); clear hK K))); (with_reducible refine wpQuiet_nil ?_); intro _ hw'; obtain ⟨nq, hw''⟩ := hw'; subst hw'')
          have hAM := ham.out
          obtain ⟨w4, hw4⟩ : ∃ w4, wr.drewN nq = w4 := ⟨_, rfl⟩
          rw [hw4]
          have hEw4 : E wr w4 := by rw [← hw4]; exact (E.refl wr).drewN nq
          clear hw4
          have HJ4 := Lib.hid (HJ.out.keep _ _ _ w4 hJi.out (fun j hj => hEw4.block (HJ.out.lt _ _ _ hJi.out j hj).2))
          have HPW4 := Lib.hid (hPW.out.step (Ex.of_e hEw4) (fun j hj => .inl hj))
          have hbx4 : w4.heap[Bx]? = _ := (hEw4.block (lt_blk hbx)).trans hbx
          clear f0 f1 f2 g1 g2 csx hSx hsx hbx hEw4
          obtain ⟨f0, f1, f2, g1, g2⟩ := cells3_of hbx4
          go_wp2_with fail
          first
            | exact ⟨⟨k + 1, _, _, by omega, by go_num, HJ4.out, HPW4.out, HPS.out, hall.out, hl6.out⟩, by simp [intOf]; omega⟩
            | (go_roundw
               case rel => exact ⟨k + 1, _, _, by omega, by go_num, HJ4.out, HPW4.out, HPS.out, hall.out, hl6.out⟩
               case measure => simp [intOf]; omega)
    · have hfin := Lib.hid (show Parts s (U l) ps by
        have := hPt.out
        rw [List.take_of_length_le (by rw [HLen.out.1]; omega)] at this
        exact this)
      go_wp2_with fail
      go_end0
      exact ⟨⟨_, rfl⟩, ps, U l, X, hfin.out, .inl ⟨hJk.out, rfl, hall.out⟩, hW.out.ex, hW.out.xx⟩
end Go.Proofs.Ytgbamgijpgjmgaa
