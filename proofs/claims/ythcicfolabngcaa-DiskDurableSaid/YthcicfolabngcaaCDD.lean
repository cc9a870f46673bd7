/- Lemmas of the claim, joined: LawDD. No condition. -/
import Derived.Test.YthcicfolabngcaaCDR
import Derived.Test.YthcicfolabngcaaJD
/- DiskDurable returns true. -/
namespace Go.Proofs.Ythcicfolabngcaa
open Go.RowKit

theorem aro3 (y : Int) : ∃ f : Int, aroN y 3 = f ∧ -9223372036854775808 ≤ f ∧ f ≤ 9223372036854775807 := by
  obtain ⟨h1, h2⟩ := aroN_range y (show (0 : Int) < 3 by decide)
  generalize aroN y 3 = a at *
  exact ⟨a, rfl, by omega, by omega⟩
set_option maxHeartbeats 8000000 in
set_option maxRecDepth 100000 in
theorem diskDurable_w (x flip : Int) (A : Option Addr) (n c : Nat) (l : List Int) (A1 : Option Addr) (n1 c1 : Nat) (l1 : List Int) (A2 : Option Addr) (n2 c2 : Nat) (l2 : List Int) (w : World) (hN : Nums .i64 w A n c l) (hN1 : Nums .i64 w A1 n1 c1 l1) (hN2 : Nums .i64 w A2 n2 c2 l2)
    (r1 : -9223372036854775808 ≤ x) (r2 : x ≤ 9223372036854775807) (f1 : -9223372036854775808 ≤ flip) (f2 : flip ≤ 9223372036854775807) :
    Calls Try.prog 5 #[.int .i64 x, .slice A n c, .slice A1 n1 c1, .slice A2 n2 c2, .int .i64 flip] w (RetK w true) := by
  have HB := Lib.hid (And.intro (And.intro r1 r2) (And.intro f1 f2))
  have HN := Lib.hid hN
  have HN1 := Lib.hid hN1
  have HN2 := Lib.hid hN2
  have hn63 := hN1.n63
  clear hN hN1 hN2 r1 r2 f1 f2
  go_enter Try.func5, Try.ntmps5
  go_upto_region 4 with (go_at_call 22; refine (made_c x A n c l w HN.out HB.out.1.1 HB.out.1.2).mono ?_; rintro e w1 ⟨g, gm, k, s, rfl, hk, hR1⟩)
  have HKK := Lib.hid hk
  have HOK := Lib.hid (hR1.mok (j := 1) rfl)
  clear hk
  go_upto_region 5 with (go_at_call 23; refine (hR1.arm 0 rfl (-1) (by decide) (by decide)).mono ?_; rintro e w2 ⟨rfl, hR2⟩)
  have hR2' : Room w w2 [DiskT g k (armS s (-1)), ModT gm s] := hR2
  clear hR1 hR2
  have hon : (armS s (-1)).off = s.off := by unfold armS; split <;> rfl
  cases ho : s.off with
  | true =>
    have hsy : (syncR (armS s (-1))).1 = 23 := by unfold syncR; rw [if_pos (by rw [hon]; exact ho)]
    rw [ho] at hon
    have HON := Lib.hid hon
    have HSY := Lib.hid hsy
    clear hon hsy ho
    go_upto_region 6 with (go_at_call 24; refine (hR2'.on 0 rfl).mono ?_; rintro e w3 ⟨rfl, hw⟩; rw [HON.out, hw]; clear hw)
    go_wp2_with (first
      | (go_at_call 15; refine (hR2'.sync 0 rfl).mono ?_; rintro e w4 ⟨rfl, hR4⟩; rw [HSY.out])
      | (go_at_call 19; refine (lives_c _).mono ?_; rintro e w9 ⟨rfl, hE9⟩))
    go_ret
    exact ⟨rfl, hR4.e_.trans hE9⟩
  | false =>
    obtain ⟨hM, hsy, hsb⟩ := MoreS.zero HOK.out ho
    rw [ho] at hon
    have HON := Lib.hid hon
    have HSY := Lib.hid hsy
    obtain ⟨s2, hs2⟩ : ∃ s2, (syncR (armS s (-1))).2 = s2 := ⟨_, rfl⟩
    rw [hs2] at hM hsb
    have HSB2 := Lib.hid hsb
    have HS2 := Lib.hid hs2
    have HM := Lib.hid hM
    clear hon hsy ho hs2 hM hsb
    go_upto_region 7 with (go_at_call 24; refine (hR2'.on 0 rfl).mono ?_; rintro e w3 ⟨rfl, hw⟩; rw [HON.out, hw]; clear hw)
    go_upto_region 9 with (go_at_call 15; refine (hR2'.sync 0 rfl).mono ?_; rintro e w4 ⟨rfl, hR4⟩; rw [HSY.out])
    rw [HS2.out] at hR4
    have hR4' : Room w w4 [DiskT g k s2, ModT gm s] := hR4
    clear hR2' hR4
    go_upto_region 12 with (go_at_call 25; refine (hR4'.copy 0 rfl (by have := HKK.out; omega)).mono ?_; rintro e w5 ⟨g2, rfl, hR5, _⟩)
    have hR5' : Room w w5 [DiskT g k s2, ModT gm s, DiskT g2 k s2] := hR5
    have HN25 := Lib.hid (HN2.out.e hR5'.e_)
    clear hR4' hR5
    go_upto_region 13 with (go_at_call 26; refine (intsN_c 4 (by decide) A2 n2 c2 l2 w5 HN25.out).mono ?_; rintro e w6 ⟨A6, n6, c6, rfl, hO6, hE6⟩)
    have hR6 : Room w w6 [DiskT g k s2, ModT gm s, DiskT g2 k s2, NumsT .i64 A6 n6 c6 (l2.take 4)] := hR5'.own hE6 hO6
    clear hR5' hO6 hE6
    generalize l2.take 4 = kp at *
    go_upto_region 14 with (go_at_call 16; refine (hR6.crashT 2 rfl 3 (by decide) rfl A6 n6 c6 kp flip id (fun h => ⟨h, rfl⟩) HB.out.2.1 HB.out.2.2).mono ?_; rintro e w7 ⟨rfl, hR7⟩)
    obtain ⟨sc, hsc⟩ : ∃ sc, crashS s2 kp flip = sc := ⟨_, rfl⟩
    rw [hsc] at hR7
    have HSC := Lib.hid (show ∀ j, sc.b j = s.b j from fun j => by rw [← hsc, crash_firm HM.out.ok kp flip j (by rw [HM.out.firm, HSB2.out]), HSB2.out])
    have HSO := Lib.hid (show sc.off = false by rw [← hsc]; rfl)
    have hR7' : Room w w7 [DiskT g k s2, ModT gm s, DiskT g2 k sc, NumsT .i64 A6 n6 c6 kp] := hR7
    clear hR6 hR7 hsc
    go_wp2_with fail
    go_loopw [15] (fun t15 wr => ∃ (i : Nat) (s3 : DS), t15 = .int .i64 i ∧ i ≤ 6 ∧ MoreS s s3 ∧ Room w wr [DiskT g (k + i) s3, ModT gm s, DiskT g2 k sc, NumsT .i64 A6 n6 c6 kp]) (fun t15 _ => 6 - (intOf t15).toNat)
    case atStart => exact ⟨0, s2, rfl, Nat.zero_le _, HM.out, hR7'⟩
    case round =>
      clear hR7'
      obtain ⟨i, s3, rfl, hi6, hM3, hR⟩ := hrel
      have HM3 := Lib.hid hM3
      clear hM3
      obtain ⟨bb, hbb⟩ : ∃ bb, (decide (i < n1) && decide (i < 6)) = bb := ⟨_, rfl⟩
      have HBB := Lib.hid hbb
      clear hbb
      go_upto_region 15 with fail
      go_cut [67] (fun t67 wx => t67 = .bool bb ∧ wr = wx)
      case first =>
        by_cases hlt : i < n1
        · have dlt : decide (i < n1) = true := by simpa using hlt
          go_wp2_with fail
          go_meet
          refine ⟨?_, rfl⟩
          rw [← HBB.out, dlt]
          simp
          omega
        · have dlt : decide (i < n1) = false := by simpa using hlt
          go_wp2_with fail
          go_meet
          refine ⟨?_, rfl⟩
          rw [← HBB.out, dlt]
          rfl
      case rest =>
        obtain ⟨rfl, rfl⟩ := hcut
        cases bb with
        | true =>
          obtain ⟨hlt, h6⟩ : i < n1 ∧ i < 6 := by simpa using HBB.out
          obtain ⟨b, o, y, hA, hb, hy, hwy, hcy0⟩ := HN1.out.get hlt
          subst hA
          have HY := Lib.hid (wf_i64 hwy)
          obtain ⟨f, hf, hf1, hf2⟩ := aro3 y
          have HF := Lib.hid (And.intro hf1 hf2)
          have HFE := Lib.hid hf
          have hil : (i : Int) < (n1 : Int) := by omega
          have HL := Lib.hid (And.intro h6 (show k + i < 1000000 by have := HKK.out; omega))
          have hcd : ∀ W, E w W → W.cell? ⟨b, o + i, none⟩ = some (.int .i64 y) := fun W hE => (hE.cell (p := ⟨b, o + i, none⟩) hb).trans hcy0
          have hcy := hcd wr hR.e_
          have HCD := Lib.hid hcd
          clear hy hwy hf hf1 hf2 hcd
          have hEa := hR.e_.trans (E.refl wr).drew
          have hv : ∀ z ∈ [IntKind.u8.wrap y, 7], (Lit.int .u8 z).wf = true := fun z hz => by
            simp at hz
            rcases hz with rfl | rfl
            · exact wf_u8w _
            · decide
          have HNB := Lib.hid (newNums wr .u8 5 [IntKind.u8.wrap y, 7] hv (show 2 ≤ 1000 by decide))
          have HEB := Lib.hid (hR.e_.trans ((E.refl wr).alloc (.cells #[.int .u8 (IntKind.u8.wrap y), .int .u8 7] 5)).drew)
          clear hv
          go_upto_region 17 with fail
          go_region_held3 (fun w' => w'.cell? ⟨b, o + i, none⟩ = some (.int .i64 y)) (first | exact HCD.out _ hEa | exact HCD.out _ HEB.out | exact HCD.out _ hRn.e_)
            (first
              | (go_at_call 12; refine (around1_c y 3 _ HY.out.1 HY.out.2 (by decide) (by decide)).mono ?_; rintro e w' ⟨rfl, hw⟩; rw [HFE.out, ← hw]; clear hw)
              | (go_at_call 14; refine (hR.append 0 rfl ((E.refl wr).alloc (.cells #[.int .u8 (IntKind.u8.wrap y), .int .u8 7] 5)).drew f (some ⟨wr.heap.size, 0, none⟩) 2 2 [IntKind.u8.wrap y, 7] HF.out.1 HF.out.2 (HNB.out.e (E.refl _).drew) (apartW.new _ _ _) HL.out.2).mono ?_; rintro e wn ⟨rfl, hRn⟩))
          all_goals (
            have hRn' : Room w wn [DiskT g (k + (i + 1)) (appR s3 f [IntKind.u8.wrap y, 7]).2, ModT gm s, DiskT g2 k sc, NumsT .i64 A6 n6 c6 kp] := hRn
            have h6 := HL.out.1
            go_wp2_with fail
            exact ⟨⟨i + 1, _, by go_num, HL.out.1, HM3.out.app f _, hRn'⟩, by have := HL.out.1; simp only [intOf]; omega⟩)
        | false =>
          have HI6 := Lib.hid hi6
          clear HBB
          go_upto_region 19 with (go_at_call 25; refine (hR.copy 0 rfl (by have := HKK.out; have := HI6.out; omega)).mono ?_; rintro e w8 ⟨g3, rfl, hR8, _⟩)
          have hR8' : Room w w8 [DiskT g (k + i) s3, ModT gm s, DiskT g2 k sc, NumsT .i64 A6 n6 c6 kp, DiskT g3 (k + i) s3] := hR8
          clear hR hR8
          go_upto_region 20 with (go_at_call 16; refine (hR8'.crashT 0 rfl 3 (by decide) rfl A6 n6 c6 kp flip id (fun h => ⟨h, rfl⟩) HB.out.2.1 HB.out.2.2).mono ?_; rintro e w9 ⟨rfl, hR9⟩)
          obtain ⟨s4, hs4⟩ : ∃ s4, crashS s3 kp flip = s4 := ⟨_, rfl⟩
          rw [hs4] at hR9
          have HAF := Lib.hid (fun j => HM3.out.after kp flip j)
          rw [hs4] at HAF
          have HS4O := Lib.hid (show s4.off = false by rw [← hs4]; rfl)
          have HS3O := Lib.hid HM3.out.off
          have hR9' : Room w w9 [DiskT g (k + i) s4, ModT gm s, DiskT g2 k sc, NumsT .i64 A6 n6 c6 kp, DiskT g3 (k + i) s3] := hR9
          obtain ⟨bb, Am, cm, m1, m3, mf⟩ := hR9'.mcells 1 rfl
          have HR9 := Lib.hid hR9'
          have HM1 := Lib.hid (fun wn (hE : E w9 wn) => (hE.cell (p := ⟨gm, 1, none⟩) (World.block_lt_of_cell? w9 _ m1)).trans m1)
          have HMF := Lib.hid mf
          clear hR8' hR9 hR9' hs4 m1 m3 mf
          go_wp2_with fail
          go_loopw [17] (fun t17 wr => ∃ j : Nat, t17 = .int .i64 j ∧ j ≤ 4 ∧ E w9 wr) (fun t17 _ => 4 - (intOf t17).toNat)
          case atStart => exact ⟨0, rfl, by decide, E.refl _⟩
          case round =>
            obtain ⟨j, rfl, hj4, hE⟩ := hrel
            by_cases hlt : j < 4
            · have dlt : decide ((j : Int) < 4) = true := by simp; omega
              have hjI : (j : Int) < 64 := by omega
              have hif : isF (j : Int) = true := isF_iff.2 ⟨by omega, by omega⟩
              have rd1 : readR sc j = (s.b j, 0) := by unfold readR; rw [if_neg (by rw [hif]; decide), if_neg (by rw [HSO.out]; decide), HSC.out]
              have rd2 : readR s4 j = (s4.b j, 0) := by unfold readR; rw [if_neg (by rw [hif]; decide), if_neg (by rw [HS4O.out]; decide)]
              have rd3 : readR s3 j = (s3.b j, 0) := by unfold readR; rw [if_neg (by rw [hif]; decide), if_neg (by rw [HS3O.out]; decide)]
              obtain ⟨af1, af2, af3⟩ := HAF.out j
              have HL := Lib.hid (And.intro hlt (show (j : Int) ≤ 9223372036854775807 by omega))
              have HA1 := Lib.hid af1
              have HA2 := Lib.hid af2
              have HA3 := Lib.hid af3
              obtain ⟨mb, mN⟩ := HMF.out j (by omega)
              have hRr := HR9.out.e hE
              clear hif af1 af2 af3
              go_upto_region 24 with (go_at_call 17; refine (hRr.read 2 rfl j (by omega) HL.out.2).mono ?_; rintro e w10 ⟨⟨A7, n7, c7, rfl, hO7, hE7⟩, hR10⟩; simp only [rd1] at hO7 ⊢)
              go_upto_region 25 with (go_at_call 17; refine (hR10.read 0 rfl j (by omega) HL.out.2).mono ?_; rintro e w11 ⟨⟨A8, n8, c8, rfl, hO8, hE8⟩, hR11⟩; simp only [rd2] at hO8 ⊢)
              have hX := hO7.reads.e hE8
              have hY := hO8.reads
              have e7 := hO7.1
              have e8 := hO8.1
              have hE11 := hE.trans (hE7.trans hE8)
              have HE11 := Lib.hid hE11
              have k1 := HM1.out w11 hE11
              have k2 := (hE11.cell (p := ⟨bb, j, none⟩) (World.block_lt_of_cell? w9 _ mb)).trans mb
              have mN2 := mN.e hE11
              have h78 : n7 ≤ n8 := by rw [← e7, ← e8]; exact HA1.out
              have hc8 := hY.cap
              have hc863 := hY.c63
              have d78 : decide (n8 < n7) = false := by simp; omega
              have h7c : (n7 : Int) ≤ (c8 : Int) := by omega
              have h70 : (0 : Int) ≤ (n7 : Int) := by omega
              have HC1 := Lib.hid (fun wn (hEn : E w11 wn) => (sameBytes_c _ _ _ _ _ _ (s.b j) (s.b j) wn (hX.e hEn) (mN2.e hEn)).mono fun e wm h => show e = .returned (.bool true) ∧ E w11 wm from ⟨h.1.trans (by rw [sameL_self]), by obtain ⟨m, hm⟩ := h.2; rw [hm]; exact hEn.drewN m⟩)
              have HC2 := Lib.hid (fun wn (hEn : E w11 wn) => (sameBytes_c _ _ _ _ _ _ ((s4.b j).take n7) (s.b j) wn ((hY.e hEn).takeB n7 h78) (hX.e hEn)).mono fun e wm h => show e = .returned (.bool true) ∧ E w11 wm from ⟨h.1.trans (by rw [← e7, HA3.out, sameL_self]), by obtain ⟨m, hm⟩ := h.2; rw [hm]; exact hEn.drewN m⟩)
              have HE8 := Lib.hid e8
              have HR11 := Lib.hid hR11
              clear hRr hR10 hR11 hO7 hO8 hE7 hE8 hX hY mN2 mb mN hE rd1 rd2 hE11 e7 e8
              have hEa := E.refl w11
              go_upto_region 29 with (first
                | (go_at_call 18; (with_reducible refine (HC1.out _ hEa).mono ?_); rintro e wn ⟨rfl, hEn⟩; replace hEa := hEn)
                | (go_at_call 18; (with_reducible refine (HC2.out _ hEa).mono ?_); rintro e wn ⟨rfl, hEn⟩; replace hEa := hEn))
              have hR12 := HR11.out.e hEa
              go_upto_region 30 with (go_at_call 17; refine (hR12.read 4 rfl j (by omega) HL.out.2).mono ?_; rintro e w12 ⟨⟨A9, n9, c9, rfl, hO9, hE9⟩, hR13⟩; simp only [rd3] at hO9 ⊢)
              have d89 : decide (n9 < n8) = false := by
                have h1 := hO9.1
                have h2 := HE8.out
                have h3 := HA2.out
                simp
                omega
              have HEF := Lib.hid (HE11.out.trans (hEa.trans hE9))
              clear hR12 hR13 hO9 hE9 hEa
              go_wp2_with fail
              exact ⟨⟨j + 1, by go_num, HL.out.1, HEF.out⟩, by have := HL.out.1; simp only [intOf]; omega⟩
            · have dlt : decide ((j : Int) < 4) = false := by simp; omega
              clear hlt
              go_wp2_with (go_at_call 19; refine (lives_c _).mono ?_; rintro e w12 ⟨rfl, hE12⟩)
              go_ret
              exact ⟨rfl, HR9.out.e_.trans (hE.trans hE12)⟩
end Go.Proofs.Ythcicfolabngcaa
