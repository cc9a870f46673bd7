/- The walk of ClearBound. -/
import Derived.Test.YtkcbdnaampiedaaKLo
import Derived.Test.YtkcbdnaampiedaaKP
import Derived.Test.YtkcbdnaampiedaaKR
import Derived.Test.YtkcbdnaampiedaaKAo
import Derived.Test.YtkcbdnaampiedaaKSp
namespace Go.Proofs.Ytkcbdnaampiedaa
open Go.RowKit

theorem Nums.takeN {k : IntKind} {w : World} {A : Option Addr} {n c : Nat} {l : List Int} (h : Nums k w A n c l) {m : Nat} (hm : m ≤ n) : Nums k w A m c (l.take m) :=
  ⟨by rw [List.length_take, h.len]; omega, by have := h.cap; omega, h.mx, fun x hx => h.wf x (List.mem_of_mem_take hx), fun h0 => by
    obtain ⟨b, o, e, hb, hc⟩ := h.at_ (by omega)
    refine ⟨b, o, e, hb, fun i hi => ?_⟩
    rw [List.length_take] at hi
    rw [hc i (by omega), List.getElem_take]⟩
set_option maxHeartbeats 8000000 in
set_option maxRecDepth 100000 in
theorem clearBound_w (N at_ by_ : Int) (A : Option Addr) (n c : Nat) (l : List Int) (Am : Option Addr) (nm cm : Nat) (m : List Int) (w : World) (h : Nums .i64 w A n c l) (hmm : Nums .i64 w Am nm cm m) (hN1 : -9223372036854775808 ≤ N) (hN2 : N ≤ 9223372036854775807) (ha1 : -9223372036854775808 ≤ at_) (ha2 : at_ ≤ 9223372036854775807) (hb1 : -9223372036854775808 ≤ by_) (hb2 : by_ ≤ 9223372036854775807) :
    Calls Try.prog 4 #[.int .i64 N, .slice A n c, .slice Am nm cm, .int .i64 at_, .int .i64 by_] w (RetK w true) := by
  have hr := aroN_range N (m := 8) (by omega)
  have HL := Lib.hid (lots27_c N w hN1 hN2)
  obtain ⟨K, hK⟩ : ∃ K : Nat, 1 + aroN N 8 = K := ⟨(1 + aroN N 8).toNat, by omega⟩
  rw [hK] at HL
  have hK1 : 1 ≤ K := by omega
  have hK8 : K ≤ 8 := by omega
  clear hK hr
  have HB := Lib.hid (bids27_c K 11 A n c l w h hK1 hK8 (by omega))
  have HLO := Lib.hid (fun W hW => rLots_c K Am nm cm m W (hmm.e hW) (by omega))
  have hpl := lotsP_len K m
  generalize lotsP K m = pm at *
  go_enter Try.func4, Try.ntmps4
  go_wp2_with fail
  refine HL.out.mono ?_
  rintro e w' ⟨rfl, rfl⟩
  go_wp2_with fail
  refine HB.out.mono ?_
  rintro e w1 ⟨lb, hlb, hgen, A1, n1, c1, q1, rfl, hR1, hq1, hE1⟩
  have hn1 : n1 ≤ 11 := by rw [← hR1.1, ← List.length_map (f := Prod.fst), hq1]; exact hlb
  have hbd1 := hR1.bids
  clear hq1 hgen hlb hR1 HB HL
  go_wp2_with fail
  refine (HLO.out _ hE1).mono ?_
  rintro e w2 ⟨A2, n2, c2, rfl, hO2, hE2⟩
  have hn2 : n2 = K := by rw [← hO2.1]; exact hpl
  subst hn2
  have hN2 := hO2.reads
  have hNe := hN2.e ((E.refl w2).alloc (.cells #[] 3))
  have hOe := Own.empty w2 .i64 3
  have HAr := Lib.hid (fun W => around1_c at_ n2 W ha1 ha2 (by omega) (by omega))
  have hri := aroN_range at_ (m := (n2 : Int)) (by omega)
  obtain ⟨k, hk⟩ : ∃ k : Nat, aroN at_ (n2 : Int) = k := ⟨(aroN at_ n2).toNat, by omega⟩
  rw [hk] at hri HAr
  have hkn : (k : Int) < (n2 : Int) := by omega
  clear hri hk ha1 ha2 HLO
  go_wp2_with (at_builtin; refine wpList_appN intTk _ rfl _ _ rfl _ _ 0 0 [] rfl hOe _ _ _ _ rfl hNe (by omega) (by simp) ?_; intro A5 c5 w5 hO5 hG5 hB5; rw [Nat.zero_add, List.nil_append] at hO5)
  obtain ⟨g5, rfl⟩ := hO5.some_ (by omega)
  have hE25 : E w2 w5 := ((E.refl w2).alloc _).grown hG5 (fun k hk => by simp [Value.ownBlock] at hk; omega)
  have hbd5 := (hbd1.e hE2).e hE25
  have hp5 := hN2.e hE25
  have hg5 := hO5.ltN g5 rfl
  have hO6 := hO5.set k by_ (wf_of_i64 hb1 hb2)
  obtain ⟨xo, _, _, _, _, hco, hfo⟩ := hO5.getg (i := k) (by omega)
  have hE26 := hE25.setCell (p := ⟨g5, k, none⟩) hg5.1 (.int .i64 by_)
  have hEw2 := hE1.trans hE2
  have hbd6 := (hbd1.e hE2).e hE26
  have hbd6' := hbd1.e hE2
  have hp6 := hN2.e hE26
  have hcp := hN2.cap
  have hcpI : (n2 : Int) - 1 ≤ (c2 : Int) := by omega
  obtain ⟨km, hkm⟩ : ∃ km : Nat, (n2 : Int) - 1 = (km : Int) := ⟨n2 - 1, by omega⟩
  have hkmI : (km : Int) ≤ (c2 : Int) := by omega
  have hwk : IntKind.i64.wrap (km : Int) = (km : Int) := by rw [IntKind.wrap_i64]; omega
  have hsz6 : w2.heap.size ≤ (w5.setCell ⟨g5, k, none⟩ (.int .i64 by_)).heap.size := hE26.le
  clear hG5 hB5 hNe hOe hO2 hO5 hbd1 hbd5 hp5 hE25
  refine (HAr.out _).mono ?_
  rintro e w' ⟨rfl, rfl⟩
  have hO6' := hO6.e ((E.refl _).drew)
  have hszs : ((w5.setCell ⟨g5, k, none⟩ (.int .i64 by_)).drew).heap.size = w5.heap.size := by simp
  have hsz6' : w2.heap.size ≤ ((w5.setCell ⟨g5, k, none⟩ (.int .i64 by_)).drew).heap.size := hsz6
  go_wp2_with fail
  refine wp_region_any (by kernel_rfl) ?_
  change wpAny _ _ _ _ _ _ _ (World.drew _)
  refine wpAny_take (i := 0) (v := .slice A2 n2 c2) rfl (by kernel_rfl) (by kernel_rfl) (by kernel_rfl) (fun _ _ _ h => h) (Or.inl ⟨by kernel_rfl, fun w => by kernel_rfl⟩) ?_
  refine wpAny_take (i := 1) (v := .slice (some ⟨g5, 0, none⟩) n2 c5) rfl (by kernel_rfl) (by kernel_rfl) (by kernel_rfl) (fun _ _ _ h => h) (Or.inl ⟨by kernel_rfl, fun w => by kernel_rfl⟩) ?_
  refine wpAny_take (i := 2) (v := .slice A2 n2 c2) rfl (by kernel_rfl) (by kernel_rfl) (by kernel_rfl) (fun _ _ _ h => h) (Or.inl ⟨by kernel_rfl, fun w => by kernel_rfl⟩) ?_
  refine wpAny_take (i := 3) (v := .int .i64 n2) rfl (by kernel_rfl) (by kernel_rfl) (by kernel_rfl) (fun _ _ _ h => h) (Or.inl ⟨by kernel_rfl, fun w => by kernel_rfl⟩) ?_
  refine wpAny_take (i := 4) (v := .int .i64 km) rfl (by kernel_rfl) (by kernel_rfl) (by kernel_rfl) (fun _ _ _ h => h) (Or.inl ⟨by kernel_rfl, fun w => by go_simp⟩) ?_
  refine wpAny_take (i := 5) (v := .slice A2 km c2) rfl (by kernel_rfl) (by kernel_rfl) (by kernel_rfl) (fun _ _ _ h => h) (Or.inl ⟨by kernel_rfl, fun w => by go_simp⟩) ?_
  refine wpAny_take (i := 6) (v := .slice (some ⟨g5, 0, none⟩) n2 c5) rfl (by kernel_rfl) (by kernel_rfl) (by kernel_rfl) (fun _ _ _ h => h) (Or.inl ⟨by kernel_rfl, fun w => by kernel_rfl⟩) ?_
  refine wpAny_ready (rs := [7]) (by kernel_rfl) (by simp) ?_
  refine AllReady.cons rfl (fun K hK => ?_) AllReady.nil
  rw [if_pos (by kernel_rfl)]
  go_simp
  refine hK _ _ ?_
  clear hK K
  refine wpAny_ready (rs := [8]) (by kernel_rfl) (by simp) ?_
  refine AllReady.cons rfl (fun K hK => ?_) AllReady.nil
  refine step_app1o intTk _ rfl _ _ rfl _ _ _ _ _ rfl hO6' _ (by rw [hszs]; rfl) (wf_of_i64 (by omega) (by omega)) (by omega) hsz6' ?_
  intro A7 c7 w7 hO7 hG7 hq7
  refine hK _ _ ?_
  clear hK K
  refine wpAny_ready (rs := [9]) (by kernel_rfl) (by simp) ?_
  refine AllReady.cons rfl (fun K hK => ?_) AllReady.nil
  rw [if_pos (by kernel_rfl)]
  go_simp
  refine hK _ _ ?_
  clear hK K
  refine wpAny_take (i := 10) (v := .slice (some ⟨w7.heap.size, 0, none⟩) 4 4) rfl (by kernel_rfl) (by kernel_rfl) (by kernel_rfl) (fun _ _ _ h => h) (Or.inl ⟨by kernel_rfl, fun w => by kernel_rfl⟩) ?_
  refine wpAny_done (by kernel_rfl) ?_ _
  have hE27 : E w2 w7 := hE26.drew.grown hG7 (fun k hk => by injection hk with hk; have := hg5.1; omega)
  obtain ⟨w8, hw8⟩ : ∃ w8, w7.alloc (.cells #[.slice A2 n2 c2, .slice (some ⟨g5, 0, none⟩) n2 c5, .slice A2 km c2, .slice A7 (n2 + 1) c7] 22) = w8 := ⟨_, rfl⟩
  have hE78 : E w7 w8 := by rw [← hw8]; exact (E.refl _).alloc _
  have hblk : w8.heap[w7.heap.size]? = some (.cells #[.slice A2 n2 c2, .slice (some ⟨g5, 0, none⟩) n2 c5, .slice A2 km c2, .slice A7 (n2 + 1) c7] 22 (0, 0)) := by rw [← hw8]; exact heap_alloc_new _ _
  have hszz : w7.heap.size < w8.heap.size := by rw [← hw8]; simp
  have hE28 := hE27.trans hE78
  have hbd8 := hbd6'.e hE28
  have HALL := Lib.hid (show ∀ i, i < 4 → ∃ Ai ni ci li, w8.cell? ⟨w7.heap.size, i, none⟩ = some (.slice Ai ni ci) ∧ Nums .i64 w8 Ai ni ci li from fun i hi => by
    obtain rfl | rfl | rfl | rfl : i = 0 ∨ i = 1 ∨ i = 2 ∨ i = 3 := by omega
    · exact ⟨_, _, _, _, cell_of_row _ _ 0 _ _ _ hblk, hN2.e hE28⟩
    · exact ⟨_, _, _, _, cell_of_row _ _ 1 _ _ _ hblk, hq7.e hE78⟩
    · exact ⟨_, _, _, _, cell_of_row _ _ 2 _ _ _ hblk, (hN2.e hE28).takeN (by omega)⟩
    · exact ⟨_, _, _, _, cell_of_row _ _ 3 _ _ _ hblk, hO7.reads.e hE78⟩)
  have HW8 := Lib.hid hw8
  have hEw8 := hEw2.trans hE28
  clear hE27 hE78 hblk hE28 hq7 hO7 hG7 hO6 hO6' hN2 hp6 hbd6 hE26 hw8 hco hfo hszs hsz6 hsz6' hwk hbd6' HAr hb1 hb2 hkm hkmI hcpI hcp hpl
  go_simp
  go_wp2_with fail
  rw [HW8.out]
  clear HW8
  go_loopw [16] (fun ti wr => ∃ i : Nat, i ≤ 4 ∧ ti = .int .i64 i ∧ E w8 wr) (fun ti _ => 4 - (intOf ti).toNat)
  case atStart => exact ⟨0, Nat.zero_le _, rfl, E.refl _⟩
  case round =>
    obtain ⟨i, hi, rfl, hE⟩ := hrel
    by_cases hi2 : (i : Int) < 4
    · obtain ⟨Ai, ni, ci, li, hci, hbi⟩ := HALL.out i (by omega)
      have hcr := (hE.cell (p := ⟨w7.heap.size, i, none⟩) hszz).trans hci
      have hnr := hbi.e hE
      have hbr := hbd8.e hE
      clear hci hbi
      generalize List.map Prod.fst q1 = lb1 at *
      have HGI := Lib.hid (fun W (hW : E wr W) => given_c _ _ _ _ W (hbr.e hW) (by omega))
      have HBO := Lib.hid (fun W A4 n4 c4 (hb : BidsAt W A4 n4 c4 lb1) (hW : E wr W) => cBound_c (n2 : Int) A4 n4 c4 lb1 Ai ni ci li W hb (hnr.e hW) (by omega) (by omega))
      have HBR := Lib.hid (fun W (hW : E wr W) => rBound_c (n2 : Int) A1 n1 c1 lb1 Ai ni ci li W (hbr.e hW) (hnr.e hW) (by omega) (by omega))
      generalize boundF (n2 : Int) lb1 li = bf at *
      obtain ⟨bv, be⟩ := bf
      simp only at HBO HBR
      have e1 : (be != be) = false := by simp
      have e2 : (bv != bv) = false := by simp
      have hszr : w7.heap.size < wr.heap.size := Nat.lt_of_lt_of_le hszz hE.le
      clear hbr hnr
      go_wp2_with fail
      go_region_held3 (fun w' => wr.heap.size ≤ w'.heap.size ∧ ∀ b o, b < wr.heap.size → w'.cell? ⟨b, o, none⟩ = wr.cell? ⟨b, o, none⟩) (first | exact ⟨Nat.le_refl _, fun _ _ _ => rfl⟩ | exact sKeepK (by assumption) (by assumption))
        (first
          | (go_at_call 15; refine (HGI.out _ ((E.refl wr).drew)).mono ?_; rintro e w9 ⟨A9, n9, c9, q9, rfl, hR9, hq9, hE9⟩; have hb9 := hR9.bids; rw [hq9] at hb9; clear hR9 hq9)
          | (go_at_call 21; refine (HBO.out _ _ _ _ hb9 (((E.refl wr).drew).trans hE9)).mono ?_; rintro e wa ⟨rfl, hEa⟩))
      rename_i hHeld
      clear hHeld
      have hEra : E wr wa := (((E.refl wr).drew).trans hE9).trans hEa
      have hcra := (hEra.cell (p := ⟨w7.heap.size, i, none⟩) hszr).trans hcr
      clear hcr hb9 hE9 hEa HGI HBO
      go_wp2_with fail
      refine (HBR.out _ hEra).mono ?_
      rintro e wb ⟨rfl, hEb⟩
      go_wp2_with fail
      exact ⟨⟨i + 1, by omega, by go_num, (hE.trans hEra).trans hEb⟩, by simp [intOf]; omega⟩
    · go_wp2_with fail
      refine (lives28_c _).mono ?_
      rintro e w9 ⟨rfl, hE9⟩
      go_wp2_with fail
      go_ret
      exact ⟨rfl, (hEw8.trans hE).trans hE9⟩
end Go.Proofs.Ytkcbdnaampiedaa
