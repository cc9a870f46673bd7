/- The walk of ClearBounds. -/
import Derived.Test.YtkcbdnaampiedaaKFb
import Derived.Test.YtkcbdnaampiedaaKVb
import Derived.Test.YtkcbdnaampiedaaKLo
import Derived.Test.YtkcbdnaampiedaaKBr
import Derived.Test.YtkcbdnaampiedaaLawPrices
namespace Go.Proofs.Ytkcbdnaampiedaa
open Go.RowKit

theorem ch_feas {l : List Bd} {n : Nat} (hl : l.length = n) (b : Nat) (h : apartB l (chF 0 n b) = true) : feas l (chF 0 n b) := by
  have hr := chF_range n 0 b
  exact ⟨hr.1, fun i hi => by have := hr.2 i hi; omega, (apartB_iff l _).1 h⟩
set_option maxHeartbeats 8000000 in
set_option maxRecDepth 100000 in
theorem clearBounds_w (N : Int) (A : Option Addr) (n c : Nat) (l : List Int) (Am : Option Addr) (nm cm : Nat) (m : List Int) (w : World) (h : Nums .i64 w A n c l) (hmm : Nums .i64 w Am nm cm m) (hN1 : -9223372036854775808 ≤ N) (hN2 : N ≤ 9223372036854775807) :
    Calls Try.prog 8 #[.int .i64 N, .slice A n c, .slice Am nm cm] w (RetK w true) := by
  have hr := aroN_range N (m := 8) (by omega)
  have HL := Lib.hid (lots27_c N w hN1 hN2)
  obtain ⟨K, hK⟩ : ∃ K : Nat, 1 + aroN N 8 = K := ⟨(1 + aroN N 8).toNat, by omega⟩
  rw [hK] at HL
  have hK1 : 1 ≤ K := by omega
  have hK8 : K ≤ 8 := by omega
  clear hK hr
  have HB := Lib.hid (bids27_c K 8 A n c l w h hK1 hK8 (by omega))
  have HLO := Lib.hid (fun W hW => rLots_c K Am nm cm m W (hmm.e hW) (by omega))
  have hpl := lotsP_len K m
  have hpo := lotsP_ok K m
  generalize lotsP K m = pm at *
  go_enter Try.func8, Try.ntmps8
  go_wp2_with fail
  refine HL.out.mono ?_
  rintro e w' ⟨rfl, rfl⟩
  go_wp2_with fail
  refine HB.out.mono ?_
  rintro e w1 ⟨lb, hlb, hgen, A1, n1, c1, q1, rfl, hR1, hq1, hE1⟩
  have hn1 : n1 ≤ 8 := by rw [← hR1.1, ← List.length_map (f := Prod.fst), hq1]; exact hlb
  have hbd1 := hR1.bids
  have hl1000 : ∀ x ∈ lb, x.2.2.length ≤ 1000 := fun x hx => by
    rw [← hq1] at hx
    obtain ⟨p, hp, rfl⟩ := List.mem_map.1 hx
    have h1 := gen_lots hR1 hq1 hgen hK8 p hp
    have h2 := (hR1.2.2 p hp).2.2.1.len
    omega
  have hval : validS (K : Int) lb = 0 := gen_valid hgen (by omega) (by omega) (by omega)
  rw [hq1] at hbd1
  have hlot : ∀ x ∈ lb, lotsOk (K : Int) (-1) x.2.2 = true := fun x hx => (bidE_ok (hgen x hx).1).2.2.2
  have hpr := pr_of_valid hval
  have hopt := bestS_opt (l := lb) (fun i => (hpr i).1)
  have hpp : ∀ x ∈ pm, 0 ≤ x ∧ x ≤ 1099511627776 := fun x hx => by have := hpo x hx; omega
  have hvb : (bestS lb).2 ≤ boundS pm lb := by rw [hopt.2.1]; exact bound_ge hpp (by rw [hpl]) hlot hopt.1
  have hbF : boundF (K : Int) lb pm = (boundS pm lb, 0) := by
    rw [boundF, if_pos hval, if_pos (by rw [hpl]), if_pos]
    rw [List.all_eq_true]
    exact fun x hx => okU_iff.2 (hpp x hx)
  have hsF : bestF (K : Int) lb = ((bestS lb).1, (bestS lb).2, 0) := by rw [bestF, if_pos hval]
  have HCH := Lib.hid (fun (b : Nat) (hl : lb.length = n1) (ha : apartB lb (chF 0 n1 b) = true) => show val lb (chF 0 n1 b) ≤ boundS pm lb ∧ val lb (chF 0 n1 b) ≤ (bestS lb).2 from
    ⟨bound_ge hpp (by rw [hpl]) hlot (ch_feas hl b ha), by rcases hopt.2.2 _ (ch_feas hl b ha) with h | h <;> omega⟩)
  have HPR := Lib.hid hpr
  have HL1 := Lib.hid hl1000
  clear hq1 hgen hlb hR1 HB HL hlot hopt hpp hpo hpr hl1000
  go_wp2_with fail
  refine (given_c _ _ _ _ _ hbd1 (by omega)).mono ?_
  rintro e w2 ⟨A2, n2, c2, q2, rfl, hR2, hq2, hE2⟩
  have hb2 := hR2.bids
  rw [hq2] at hb2
  have hn2 : n2 = n1 := by have := hb2.len; have := hbd1.len; omega
  subst hn2
  have hlen := hb2.len
  have hEw2 := hE1.trans hE2
  clear hR2 hq2 hbd1 hE1 hE2
  go_wp2_with fail
  refine (HLO.out _ hEw2).mono ?_
  rintro e w3 ⟨A3, n3, c3, rfl, hO3, hE3⟩
  have HBo := Lib.hid (cBound_c (K : Int) A2 n2 c2 lb A3 n3 c3 pm w3 (hb2.e hE3) hO3.reads (by omega) (by omega))
  rw [hbF] at HBo
  have HBe := Lib.hid (fun W hW => cBest_c (K : Int) A2 n2 c2 lb W (hb2.e hW) (by omega) (by omega))
  rw [hsF] at HBe
  have HCHl := Lib.hid (fun b => HCH.out b hlen)
  have hfz := fun b => feasZ_ch hlen b
  have HFZ := Lib.hid hfz
  obtain ⟨bv, hbv⟩ : ∃ bv, boundS pm lb = bv := ⟨_, rfl⟩
  obtain ⟨sv, hsv⟩ : ∃ sv, (bestS lb).2 = sv := ⟨_, rfl⟩
  rw [hbv] at HBo HCHl hvb
  rw [hsv] at HBe HCHl hvb
  have hvb' : ¬ bv < sv := by omega
  clear hfz hbF hsF hbv hsv HCH hvb HLO hO3
  go_wp2_with fail
  refine HBo.out.mono ?_
  rintro e w4 ⟨rfl, hE4⟩
  have hE24 := hE3.trans hE4
  go_wp2_with fail
  refine (HBe.out _ hE24).mono ?_
  rintro e w5 ⟨A5, n5, c5, rfl, _, hE5⟩
  have hE25 := hE24.trans hE5
  have hb5 := hb2.e hE25
  have hEw5 := hEw2.trans hE25
  clear HBo HBe hE3 hE4 hE24 hE5 hE25 hb2 hEw2
  go_wp2_with fail
  go_loopw [14] (fun tb wr => ∃ b : Nat, b ≤ 256 ∧ tb = .int .i64 b ∧ E w5 wr) (fun tb _ => 256 - (intOf tb).toNat)
  case atStart => exact ⟨0, Nat.zero_le _, rfl, E.refl _⟩
  case round =>
    obtain ⟨b, hb, rfl, hE⟩ := hrel
    by_cases hlt : (b : Int) < 256
    · have HC := Lib.hid (fun W => choice_c b n2 W (by omega) (by omega))
      have HRG := Lib.hid (chF_range n2 0 b)
      have hfz := HFZ.out b
      have hch := HCHl.out b
      generalize chF 0 n2 b = ch at *
      have HVI := Lib.hid (valZ_ints (l := lb) ch (fun i hi => by have := HRG.out.2 i hi; omega))
      have HLC := Lib.hid (chF_len HRG.out)
      have HFZ2 := Lib.hid hfz
      have HCH2 := Lib.hid hch
      clear hfz hch
      go_wp2_with fail
      refine (HC.out _).mono ?_
      rintro e w6 ⟨A6, n6, c6, rfl, hO6, hE6⟩
      have hN6 := hO6.reads
      have hn6 : n6 ≤ 8 := by have := hN6.len; rw [ints_len] at this; have := HLC.out; omega
      have hb6 := hb5.e (hE.trans hE6)
      have HF := Lib.hid (bFeasible_c A2 n2 c2 lb A6 n6 c6 (ints ch) w6 hb6 hN6 (by omega) HL1.out)
      rw [HFZ2.out] at HF
      have HV := Lib.hid (fun W hW => bValue_c A2 n2 c2 lb A6 n6 c6 (ints ch) W (hb6.e hW) (hN6.e hW) (by omega) HPR.out)
      rw [HVI.out] at HV
      have hE56 := hE.trans hE6
      clear hO6 hN6 hb6 HVI HFZ2 hE hE6
      cases hap : apartB lb ch
      · rw [hap] at HF
        clear hap
        go_wp2_with fail
        refine HF.out.mono ?_
        rintro e w7 ⟨rfl, hE7⟩
        go_wp2_with fail
        exact ⟨⟨b + 1, by omega, by go_num, hE56.trans hE7⟩, by simp [intOf]; omega⟩
      · rw [hap] at HF
        obtain ⟨hc1, hc2⟩ := HCH2.out hap
        clear hap HCH2
        generalize val lb ch = vv at *
        have hc1' : ¬ bv < vv := by omega
        have hc2' : ¬ sv < vv := by omega
        clear hc1 hc2
        go_wp2_with fail
        refine HF.out.mono ?_
        rintro e w7 ⟨rfl, hE7⟩
        go_wp2_with fail
        refine (HV.out _ hE7).mono ?_
        rintro e w8 ⟨rfl, hE8⟩
        go_wp2_with fail
        refine (HV.out _ (hE7.trans hE8)).mono ?_
        rintro e w9 ⟨rfl, hE9⟩
        go_wp2_with fail
        exact ⟨⟨b + 1, by omega, by go_num, ((hE56.trans hE7).trans hE8).trans hE9⟩, by simp [intOf]; omega⟩
    · go_wp2_with fail
      refine (lives28_c _).mono ?_
      rintro e w9 ⟨rfl, hE9⟩
      go_wp2_with fail
      go_ret
      exact ⟨rfl, (hEw5.trans hE).trans hE9⟩
end Go.Proofs.Ytkcbdnaampiedaa
