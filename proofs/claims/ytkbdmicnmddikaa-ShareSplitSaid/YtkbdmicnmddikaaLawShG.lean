/- The walk of ShareSplit. -/
import Derived.Test.YtkbdmicnmddikaaLawShA
import Derived.Test.YtkbdmicnmddikaaS12
namespace Go.Proofs.Ytkbdmicnmddikaa
open Go.RowKit

theorem Nums.takeI {w : World} {A : Option Addr} {n c : Nat} {l : List Int} (h : Nums .i64 w A n c l) {m : Nat} (hm : m ≤ n) : Nums .i64 w A m c (l.take m) := by
  have htl : (l.take m).length = m := by rw [List.length_take, h.len]; omega
  refine ⟨htl, by have := h.cap; omega, h.mx, fun x hx => h.wf x (List.mem_of_mem_take hx), fun h0 => ?_⟩
  obtain ⟨b, o, h1, h2, h3⟩ := h.at_ (by omega)
  refine ⟨b, o, h1, h2, fun i hi => ?_⟩
  rw [List.getElem_take]
  exact h3 i (by rw [htl] at hi; rw [h.len]; omega)

set_option maxHeartbeats 2000000 in
set_option maxRecDepth 100000 in
theorem shareSplit_w (total : Int) (A : Option Addr) (n c : Nat) (l : List Int) (w : World) (h : Nums .i64 w A n c l) (h1 : -9223372036854775808 ≤ total) (h2 : total ≤ 9223372036854775807) :
    Calls Try.prog 4 #[.int .i64 total, .slice A n c] w (RetT w true) := by
  have hm := h.n63
  have hc := h.c63
  have hcap := h.cap
  obtain ⟨t, ht⟩ : ∃ t, total % 1099511627777 = t := ⟨_, rfl⟩
  have hT := (h.e ((E.refl w).alloc (.cells #[] 3))).takeI (m := (min (n : Int) 8).toNat) (by omega)
  go_enter Try.func4, Try.ntmps4
  go_wp2_with (at_builtin; refine wpList_appN intT3 _ rfl _ _ rfl w.heap.size _ _ _ [] rfl (Own.empty w _ _) _ _ _ _ rfl hT (by omega) (by simp) ?_; intro Aq cq w3 hO3 hG3 hB3)
  have hM8 : (min (n : Int) 8).toNat ≤ 8 := by omega
  simp only [Nat.zero_add, List.nil_append] at hO3 ⊢
  clear hT
  generalize (min (n : Int) 8).toNat = M at *
  have hRaw : Nums .i64 w3 Aq M cq (l.take M) := hO3.reads
  replace hE3 : E w w3 := ((E.refl w).alloc _).up hB3
  clear hO3 hG3 hB3
  replace h := h.e hE3
  go_wp2_with fail
  refine (refWeights_c A n c l _ h).mono ?_
  rintro e w4 ⟨A4, n4, c4, rfl, hO4, hE4⟩
  have hn4 := hO4.1
  have hwl := weightsL_len l
  rw [hn4] at hwl
  replace hRaw := hRaw.e hE4
  have hE := hE3.trans hE4
  clear hE3 hE4
  go_wp2_with fail
  refine (aroundR total 1099511627777 _ h1 h2 (by omega) (by omega)).mono ?_
  rintro e w' ⟨rfl, rfl⟩
  go_wp2_with fail
  refine (split_c total Aq M cq _ _ hRaw (by omega)).mono ?_
  rintro e w5 ⟨A5, n5, c5, rfl, hO5, hE5⟩
  replace hRaw := hRaw.e hE5
  have hW := hO4.reads.e hE5
  replace hE := hE.trans hE5
  clear hE5 hO4
  go_wp2_with fail
  refine (refSplit_c total Aq M cq _ _ hRaw (by omega)).mono ?_
  rintro e w6 ⟨A6, n6, c6, rfl, hO6, hE6⟩
  have hX := hO5.reads.e hE6
  replace hW := hW.e hE6
  replace hE := hE.trans hE6
  clear hE6 hO5 hRaw
  go_wp2_with fail
  refine (split_c t A4 n4 c4 _ _ hW (by omega)).mono ?_
  rintro e w7 ⟨A7, n7, c7, rfl, hO7, hE7⟩
  replace hX := hX.e hE7
  have hY := hO6.reads.e hE7
  replace hW := hW.e hE7
  replace hE := hE.trans hE7
  clear hE7 hO6
  go_wp2_with fail
  refine (refSplit_c t A4 n4 c4 _ _ hW (by omega)).mono ?_
  rintro e w8 ⟨A8, n8, c8, rfl, hO8, hE8⟩
  replace hX := hX.e hE8
  replace hY := hY.e hE8
  have hZ := hO7.reads.e hE8
  have hV := hO8.reads
  replace hE := hE.trans hE8
  clear hE8 hO7 hO8 hW h
  generalize splitS total (l.take M) = r1 at *
  generalize splitS t (weightsL l) = r2 at *
  obtain ⟨l1, x1⟩ := r1
  obtain ⟨l2, x2⟩ := r2
  go_wp2_with fail
  refine (sameR_t _ _ _ _ _ _ _ _ hX hY).mono ?_
  rintro e w9 ⟨rfl, hE9⟩
  replace hZ := hZ.e hE9
  replace hV := hV.e hE9
  replace hE := hE.trans hE9
  clear hE9 hX hY
  go_wp2_with fail
  refine (sameR_t _ _ _ _ _ _ _ _ hZ hV).mono ?_
  rintro e w10 ⟨rfl, hE10⟩
  replace hE := hE.trans hE10
  go_wp2_with fail
  refine (shLives_c _).mono ?_
  rintro e w11 ⟨rfl, hE11⟩
  go_wp2_with fail
  go_ret
  exact ⟨rfl, hE.trans hE11⟩
end Go.Proofs.Ytkbdmicnmddikaa
