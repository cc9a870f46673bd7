/- Lemmas of the claim, joined: LawDL. No condition. -/
import Derived.Test.YthcicfolabngcaaCDA
import Derived.Test.YthcicfolabngcaaGB
/- DiskPlan returns true. -/
namespace Go.Proofs.Ythcicfolabngcaa
open Go.RowKit

theorem room1 {w0 w : World} {T T' : World → (Nat → Prop) → Prop} (h : Room w0 w ([T].set 0 T')) : Room w0 w [T'] := h
set_option maxHeartbeats 4000000 in
set_option maxRecDepth 100000 in
theorem diskPlan_w (m : Int) (A : Option Addr) (n c : Nat) (l : List Int) (w : World) (hN : Nums .i64 w A n c l) (m1 : -9223372036854775808 ≤ m) (m2 : m ≤ 9223372036854775807) :
    Calls Try.prog 7 #[.int .i64 m, .slice A n c] w (RetK w true) := by
  have HB := Lib.hid (And.intro m1 m2)
  clear m1 m2
  obtain ⟨q, hq⟩ : ∃ q : Nat, aroN m 8 = q := ⟨(aroN m 8).toNat, by have := aroN_range m (show (0 : Int) < 8 by decide); omega⟩
  have hq8 : q < 8 := by have := aroN_range m (show (0 : Int) < 8 by decide); omega
  have HQ := Lib.hid (And.intro hq hq8)
  clear hq hq8
  have hn63 := hN.n63
  have HN := Lib.hid hN
  clear hN
  go_enter Try.func7, Try.ntmps7
  go_upto_region 4 with (go_at_call 11; refine (room_new (Room.nil w) 1000 (by decide) (by decide)).mono ?_; rintro e w1 ⟨g, rfl, hR, hE1⟩)
  have hR1 : Room w w1 [DiskT g 0 (newS 1000)] := hR
  clear hR hE1
  go_upto_region 5 with (go_at_call 12; refine (around1_c m 8 _ HB.out.1 HB.out.2 (by decide) (by decide)).mono ?_; rintro e w' ⟨rfl, hw⟩; rw [HQ.out.1, ← hw]; clear hw)
  go_upto_region 6 with (go_at_call 23; refine (hR1.arm 0 rfl q (by omega) (by have := HQ.out.2; omega)).mono ?_; rintro e w2 ⟨rfl, hR2⟩)
  have hR2' : Room w w2 [DiskT g 0 (armS (newS 1000) q)] := hR2
  clear hR1 hR2
  go_wp2_with fail
  go_loopw [9, 8] (fun t9 t8 wr => ∃ (i z k : Nat) (s : DS), t9 = .int .i64 i ∧ t8 = .int .i64 z ∧ i ≤ n ∧ i ≤ 12 ∧ k ≤ i ∧ PlanS q i z s ∧ Room w wr [DiskT g k s]) (fun t9 _ _ => 12 - (intOf t9).toNat)
  case atStart => exact ⟨0, 0, 0, _, rfl, rfl, Nat.zero_le _, Nat.zero_le _, Nat.le_refl _, PlanS.zero q, hR2'⟩
  case round =>
    obtain ⟨i, z, k, s, rfl, rfl, hi, hi2, hk, hP, hR⟩ := hrel
    have HK := Lib.hid (And.intro hi (And.intro hi2 hk))
    have HP := Lib.hid hP
    clear hR2' hi hi2 hk hP
    by_cases hlt : i < n
    · by_cases h12 : i < 12
      · obtain ⟨b, o, y, hA, hb, hy, hwy, hcy⟩ := (HN.out.e hR.e_).get hlt
        subst hA
        have HY := Lib.hid (wf_i64 hwy)
        have h3 : aroN y 3 = 0 ∨ aroN y 3 = 1 ∨ aroN y 3 = 2 := by have := aroN_range y (show (0 : Int) < 3 by decide); omega
        have hRr := hR
        have hzb : (z : Int) ≤ 12 := by have := HP.out.top; omega
        have HK2 := Lib.hid (show i + 1 ≤ n ∧ i + 1 ≤ 12 ∧ 12 - (intOf (.int .i64 ((i : Int) + 1))).toNat < 12 - (intOf (.int .i64 (i : Int))).toNat by simp only [intOf]; omega)
        have dlt : decide (i < n) = true := by simpa using hlt
        have d12 : decide (i < 12) = true := by simpa using h12
        have HL12 := Lib.hid (And.intro hlt h12)
        clear hy hwy hR
        rcases Nat.lt_trichotomy i q with hq | hq | hq
        · have d1 : decide (i < q) = true := by simp; omega
          have d2 : decide (q ≤ i) = false := by simp; omega
          have d3 : decide (i ≤ q) = true := by simp; omega
          have hoff : decide (q < i + 1) = false := by simp; omega
          have hA := HP.out.app (show i < 500 by omega)
          rw [if_pos hq, if_pos (show i ≤ q by omega)] at hA
          have hS := HP.out.sync
          rw [if_pos hq] at hS
          have HA := Lib.hid hA
          have HS := Lib.hid hS
          have HQI := Lib.hid hq
          clear hq hA hS
          rcases h3 with h3 | h3 | h3
          · have H3 := Lib.hid h3
            clear h3
            go_wp2_with (first
              | (go_at_call 12; refine (around1_c y 3 _ HY.out.1 HY.out.2 (by decide) (by decide)).mono ?_; rintro e w' ⟨rfl, hw⟩; rw [H3.out, ← hw]; clear hw)
              | (go_at_call 14; refine (hRr.append 0 rfl ((E.refl wr).alloc (.cells #[.int .u8 5] 5)) 1 (some ⟨wr.heap.size, 0, none⟩) 1 1 [5] (by decide) (by decide) (newNums wr .u8 5 [5] (by decide) (by decide)) (apartW.new _ _ _) (by have := HK.out; omega)).mono ?_; rintro e w5 ⟨rfl, hR5'⟩; rw [HA.out.1]; have hR5 := room1 hR5'; have HP5 := Lib.hid HA.out.2; clear hR5')
              | (go_at_call 24; refine (hR5.on 0 rfl).mono ?_; rintro e w6 ⟨rfl, hw⟩; rw [HP5.out.off, hoff, hw]; clear hw)
              | (go_at_call 21; refine (hR5.used 0 rfl).mono ?_; rintro e w7 ⟨rfl, hw⟩; rw [HP5.out.used, hw]; clear hw))
            exact ⟨⟨i + 1, z + 1, k + 1, _, by go_num, by go_num, HK2.out.1, HK2.out.2.1, by have := HK.out.2.2; omega, HP5.out, hR5⟩, HK2.out.2.2⟩
          · have H3 := Lib.hid h3
            clear h3
            go_wp2_with (first
              | (go_at_call 12; refine (around1_c y 3 _ HY.out.1 HY.out.2 (by decide) (by decide)).mono ?_; rintro e w' ⟨rfl, hw⟩; rw [H3.out, ← hw]; clear hw)
              | (go_at_call 15; refine (hRr.sync 0 rfl).mono ?_; rintro e w5 ⟨rfl, hR5'⟩; rw [HS.out.1]; have hR5 := room1 hR5'; have HP5 := Lib.hid HS.out.2; clear hR5')
              | (go_at_call 24; refine (hR5.on 0 rfl).mono ?_; rintro e w6 ⟨rfl, hw⟩; rw [HP5.out.off, hoff, hw]; clear hw)
              | (go_at_call 21; refine (hR5.used 0 rfl).mono ?_; rintro e w7 ⟨rfl, hw⟩; rw [HP5.out.used, hw]; clear hw))
            exact ⟨⟨i + 1, z, k, _, by go_num, rfl, HK2.out.1, HK2.out.2.1, by have := HK.out.2.2; omega, HP5.out, hR5⟩, HK2.out.2.2⟩
          · have H3 := Lib.hid h3
            clear h3
            by_cases hz : 0 < z
            · have hT := HP.out.trunc hz
              rw [if_pos HQI.out, if_pos HQI.out] at hT
              have HT := Lib.hid hT
              have hz0 : decide (0 < z) = true := by simpa using hz
              have HZ1 := Lib.hid (show (z : Int) - 1 = ((z - 1 : Nat) : Int) by omega)
              have hnz : (((z - 1 : Nat) : Int) != (z : Int) - 1) = false := by rw [← HZ1.out]; simp
              clear hT hz
              go_wp2_with (first
                | (go_at_call 12; refine (around1_c y 3 _ HY.out.1 HY.out.2 (by decide) (by decide)).mono ?_; rintro e w' ⟨rfl, hw⟩; rw [H3.out, ← hw]; clear hw)
                | (go_at_call 20; refine (hRr.trunc 0 rfl 1 ((z : Int) - 1) (by decide) (by decide)).mono ?_; rintro e w5 ⟨rfl, hR5'⟩; rw [HT.out.1]; have hR5 := room1 hR5'; have HP5 := Lib.hid HT.out.2; clear hR5')
                | (go_at_call 24; refine (hR5.on 0 rfl).mono ?_; rintro e w6 ⟨rfl, hw⟩; rw [HP5.out.off, hoff, hw]; clear hw)
                | (go_at_call 21; refine (hR5.used 0 rfl).mono ?_; rintro e w7 ⟨rfl, hw⟩; rw [HP5.out.used, hw]; clear hw))
              exact ⟨⟨i + 1, z - 1, k, _, by go_num, by rw [HZ1.out], HK2.out.1, HK2.out.2.1, by have := HK.out.2.2; omega, HP5.out, hR5⟩, HK2.out.2.2⟩
            · have dz : decide (0 < z) = false := by simp; omega
              clear hz
              go_wp2_with (first
                | (go_at_call 12; refine (around1_c y 3 _ HY.out.1 HY.out.2 (by decide) (by decide)).mono ?_; rintro e w' ⟨rfl, hw⟩; rw [H3.out, ← hw]; clear hw)
                | (go_at_call 15; refine (hRr.sync 0 rfl).mono ?_; rintro e w5 ⟨rfl, hR5'⟩; rw [HS.out.1]; have hR5 := room1 hR5'; have HP5 := Lib.hid HS.out.2; clear hR5')
                | (go_at_call 24; refine (hR5.on 0 rfl).mono ?_; rintro e w6 ⟨rfl, hw⟩; rw [HP5.out.off, hoff, hw]; clear hw)
                | (go_at_call 21; refine (hR5.used 0 rfl).mono ?_; rintro e w7 ⟨rfl, hw⟩; rw [HP5.out.used, hw]; clear hw))
              exact ⟨⟨i + 1, z, k, _, by go_num, rfl, HK2.out.1, HK2.out.2.1, by have := HK.out.2.2; omega, HP5.out, hR5⟩, HK2.out.2.2⟩
        · have d1 : decide (i < q) = false := by simp; omega
          have d2 : decide (q ≤ i) = true := by simp; omega
          have d3 : decide (i ≤ q) = true := by simp; omega
          have hoff : decide (q < i + 1) = true := by simp; omega
          have hA := HP.out.app (show i < 500 by omega)
          rw [if_neg (show ¬ i < q by omega), if_pos (show i ≤ q by omega)] at hA
          have hS := HP.out.sync
          rw [if_neg (show ¬ i < q by omega)] at hS
          have HA := Lib.hid hA
          have HS := Lib.hid hS
          have HQI := Lib.hid hq
          clear hq hA hS
          rcases h3 with h3 | h3 | h3
          · have H3 := Lib.hid h3
            clear h3
            go_wp2_with (first
              | (go_at_call 12; refine (around1_c y 3 _ HY.out.1 HY.out.2 (by decide) (by decide)).mono ?_; rintro e w' ⟨rfl, hw⟩; rw [H3.out, ← hw]; clear hw)
              | (go_at_call 14; refine (hRr.append 0 rfl ((E.refl wr).alloc (.cells #[.int .u8 5] 5)) 1 (some ⟨wr.heap.size, 0, none⟩) 1 1 [5] (by decide) (by decide) (newNums wr .u8 5 [5] (by decide) (by decide)) (apartW.new _ _ _) (by have := HK.out; omega)).mono ?_; rintro e w5 ⟨rfl, hR5'⟩; rw [HA.out.1]; have hR5 := room1 hR5'; have HP5 := Lib.hid HA.out.2; clear hR5')
              | (go_at_call 24; refine (hR5.on 0 rfl).mono ?_; rintro e w6 ⟨rfl, hw⟩; rw [HP5.out.off, hoff, hw]; clear hw)
              | (go_at_call 21; refine (hR5.used 0 rfl).mono ?_; rintro e w7 ⟨rfl, hw⟩; rw [HP5.out.used, hw]; clear hw))
            exact ⟨⟨i + 1, z + 1, k + 1, _, by go_num, by go_num, HK2.out.1, HK2.out.2.1, by have := HK.out.2.2; omega, HP5.out, hR5⟩, HK2.out.2.2⟩
          · have H3 := Lib.hid h3
            clear h3
            go_wp2_with (first
              | (go_at_call 12; refine (around1_c y 3 _ HY.out.1 HY.out.2 (by decide) (by decide)).mono ?_; rintro e w' ⟨rfl, hw⟩; rw [H3.out, ← hw]; clear hw)
              | (go_at_call 15; refine (hRr.sync 0 rfl).mono ?_; rintro e w5 ⟨rfl, hR5'⟩; rw [HS.out.1]; have hR5 := room1 hR5'; have HP5 := Lib.hid HS.out.2; clear hR5')
              | (go_at_call 24; refine (hR5.on 0 rfl).mono ?_; rintro e w6 ⟨rfl, hw⟩; rw [HP5.out.off, hoff, hw]; clear hw)
              | (go_at_call 21; refine (hR5.used 0 rfl).mono ?_; rintro e w7 ⟨rfl, hw⟩; rw [HP5.out.used, hw]; clear hw))
            exact ⟨⟨i + 1, z, k, _, by go_num, rfl, HK2.out.1, HK2.out.2.1, by have := HK.out.2.2; omega, HP5.out, hR5⟩, HK2.out.2.2⟩
          · have H3 := Lib.hid h3
            clear h3
            by_cases hz : 0 < z
            · have hT := HP.out.trunc hz
              rw [if_neg (show ¬ i < q by have := HQI.out; omega), if_neg (show ¬ i < q by have := HQI.out; omega)] at hT
              have HT := Lib.hid hT
              have hz0 : decide (0 < z) = true := by simpa using hz
              have HZ1 := Lib.hid (show (z : Int) - 1 = ((z - 1 : Nat) : Int) by omega)
              have hnz : (((z - 1 : Nat) : Int) != (z : Int) - 1) = false := by rw [← HZ1.out]; simp
              clear hT hz
              go_wp2_with (first
                | (go_at_call 12; refine (around1_c y 3 _ HY.out.1 HY.out.2 (by decide) (by decide)).mono ?_; rintro e w' ⟨rfl, hw⟩; rw [H3.out, ← hw]; clear hw)
                | (go_at_call 20; refine (hRr.trunc 0 rfl 1 ((z : Int) - 1) (by decide) (by decide)).mono ?_; rintro e w5 ⟨rfl, hR5'⟩; rw [HT.out.1]; have hR5 := room1 hR5'; have HP5 := Lib.hid HT.out.2; clear hR5')
                | (go_at_call 24; refine (hR5.on 0 rfl).mono ?_; rintro e w6 ⟨rfl, hw⟩; rw [HP5.out.off, hoff, hw]; clear hw)
                | (go_at_call 21; refine (hR5.used 0 rfl).mono ?_; rintro e w7 ⟨rfl, hw⟩; rw [HP5.out.used, hw]; clear hw))
              exact ⟨⟨i + 1, z, k, _, by go_num, rfl, HK2.out.1, HK2.out.2.1, by have := HK.out.2.2; omega, HP5.out, hR5⟩, HK2.out.2.2⟩
            · have dz : decide (0 < z) = false := by simp; omega
              clear hz
              go_wp2_with (first
                | (go_at_call 12; refine (around1_c y 3 _ HY.out.1 HY.out.2 (by decide) (by decide)).mono ?_; rintro e w' ⟨rfl, hw⟩; rw [H3.out, ← hw]; clear hw)
                | (go_at_call 15; refine (hRr.sync 0 rfl).mono ?_; rintro e w5 ⟨rfl, hR5'⟩; rw [HS.out.1]; have hR5 := room1 hR5'; have HP5 := Lib.hid HS.out.2; clear hR5')
                | (go_at_call 24; refine (hR5.on 0 rfl).mono ?_; rintro e w6 ⟨rfl, hw⟩; rw [HP5.out.off, hoff, hw]; clear hw)
                | (go_at_call 21; refine (hR5.used 0 rfl).mono ?_; rintro e w7 ⟨rfl, hw⟩; rw [HP5.out.used, hw]; clear hw))
              exact ⟨⟨i + 1, z, k, _, by go_num, rfl, HK2.out.1, HK2.out.2.1, by have := HK.out.2.2; omega, HP5.out, hR5⟩, HK2.out.2.2⟩
        · have d1 : decide (i < q) = false := by simp; omega
          have d2 : decide (q ≤ i) = true := by simp; omega
          have d3 : decide (i ≤ q) = false := by simp; omega
          have hoff : decide (q < i + 1) = true := by simp; omega
          have hA := HP.out.app (show i < 500 by omega)
          rw [if_neg (show ¬ i < q by omega), if_neg (show ¬ i ≤ q by omega)] at hA
          have hS := HP.out.sync
          rw [if_neg (show ¬ i < q by omega)] at hS
          have HA := Lib.hid hA
          have HS := Lib.hid hS
          have HQI := Lib.hid hq
          clear hq hA hS
          rcases h3 with h3 | h3 | h3
          · have H3 := Lib.hid h3
            clear h3
            go_wp2_with (first
              | (go_at_call 12; refine (around1_c y 3 _ HY.out.1 HY.out.2 (by decide) (by decide)).mono ?_; rintro e w' ⟨rfl, hw⟩; rw [H3.out, ← hw]; clear hw)
              | (go_at_call 14; refine (hRr.append 0 rfl ((E.refl wr).alloc (.cells #[.int .u8 5] 5)) 1 (some ⟨wr.heap.size, 0, none⟩) 1 1 [5] (by decide) (by decide) (newNums wr .u8 5 [5] (by decide) (by decide)) (apartW.new _ _ _) (by have := HK.out; omega)).mono ?_; rintro e w5 ⟨rfl, hR5'⟩; rw [HA.out.1]; have hR5 := room1 hR5'; have HP5 := Lib.hid HA.out.2; clear hR5')
              | (go_at_call 24; refine (hR5.on 0 rfl).mono ?_; rintro e w6 ⟨rfl, hw⟩; rw [HP5.out.off, hoff, hw]; clear hw)
              | (go_at_call 21; refine (hR5.used 0 rfl).mono ?_; rintro e w7 ⟨rfl, hw⟩; rw [HP5.out.used, hw]; clear hw))
            exact ⟨⟨i + 1, z, k + 1, _, by go_num, rfl, HK2.out.1, HK2.out.2.1, by have := HK.out.2.2; omega, HP5.out, hR5⟩, HK2.out.2.2⟩
          · have H3 := Lib.hid h3
            clear h3
            go_wp2_with (first
              | (go_at_call 12; refine (around1_c y 3 _ HY.out.1 HY.out.2 (by decide) (by decide)).mono ?_; rintro e w' ⟨rfl, hw⟩; rw [H3.out, ← hw]; clear hw)
              | (go_at_call 15; refine (hRr.sync 0 rfl).mono ?_; rintro e w5 ⟨rfl, hR5'⟩; rw [HS.out.1]; have hR5 := room1 hR5'; have HP5 := Lib.hid HS.out.2; clear hR5')
              | (go_at_call 24; refine (hR5.on 0 rfl).mono ?_; rintro e w6 ⟨rfl, hw⟩; rw [HP5.out.off, hoff, hw]; clear hw)
              | (go_at_call 21; refine (hR5.used 0 rfl).mono ?_; rintro e w7 ⟨rfl, hw⟩; rw [HP5.out.used, hw]; clear hw))
            exact ⟨⟨i + 1, z, k, _, by go_num, rfl, HK2.out.1, HK2.out.2.1, by have := HK.out.2.2; omega, HP5.out, hR5⟩, HK2.out.2.2⟩
          · have H3 := Lib.hid h3
            clear h3
            by_cases hz : 0 < z
            · have hT := HP.out.trunc hz
              rw [if_neg (show ¬ i < q by have := HQI.out; omega), if_neg (show ¬ i < q by have := HQI.out; omega)] at hT
              have HT := Lib.hid hT
              have hz0 : decide (0 < z) = true := by simpa using hz
              have HZ1 := Lib.hid (show (z : Int) - 1 = ((z - 1 : Nat) : Int) by omega)
              have hnz : (((z - 1 : Nat) : Int) != (z : Int) - 1) = false := by rw [← HZ1.out]; simp
              clear hT hz
              go_wp2_with (first
                | (go_at_call 12; refine (around1_c y 3 _ HY.out.1 HY.out.2 (by decide) (by decide)).mono ?_; rintro e w' ⟨rfl, hw⟩; rw [H3.out, ← hw]; clear hw)
                | (go_at_call 20; refine (hRr.trunc 0 rfl 1 ((z : Int) - 1) (by decide) (by decide)).mono ?_; rintro e w5 ⟨rfl, hR5'⟩; rw [HT.out.1]; have hR5 := room1 hR5'; have HP5 := Lib.hid HT.out.2; clear hR5')
                | (go_at_call 24; refine (hR5.on 0 rfl).mono ?_; rintro e w6 ⟨rfl, hw⟩; rw [HP5.out.off, hoff, hw]; clear hw)
                | (go_at_call 21; refine (hR5.used 0 rfl).mono ?_; rintro e w7 ⟨rfl, hw⟩; rw [HP5.out.used, hw]; clear hw))
              exact ⟨⟨i + 1, z, k, _, by go_num, rfl, HK2.out.1, HK2.out.2.1, by have := HK.out.2.2; omega, HP5.out, hR5⟩, HK2.out.2.2⟩
            · have dz : decide (0 < z) = false := by simp; omega
              clear hz
              go_wp2_with (first
                | (go_at_call 12; refine (around1_c y 3 _ HY.out.1 HY.out.2 (by decide) (by decide)).mono ?_; rintro e w' ⟨rfl, hw⟩; rw [H3.out, ← hw]; clear hw)
                | (go_at_call 15; refine (hRr.sync 0 rfl).mono ?_; rintro e w5 ⟨rfl, hR5'⟩; rw [HS.out.1]; have hR5 := room1 hR5'; have HP5 := Lib.hid HS.out.2; clear hR5')
                | (go_at_call 24; refine (hR5.on 0 rfl).mono ?_; rintro e w6 ⟨rfl, hw⟩; rw [HP5.out.off, hoff, hw]; clear hw)
                | (go_at_call 21; refine (hR5.used 0 rfl).mono ?_; rintro e w7 ⟨rfl, hw⟩; rw [HP5.out.used, hw]; clear hw))
              exact ⟨⟨i + 1, z, k, _, by go_num, rfl, HK2.out.1, HK2.out.2.1, by have := HK.out.2.2; omega, HP5.out, hR5⟩, HK2.out.2.2⟩
      · have h12n : decide (i < 12) = false := by simpa using h12
        have dlt : decide (i < n) = true := by simpa using hlt
        have hz12 : z ≤ 12 := by have := HP.out.top; have := HK.out; omega
        have hCR := HP.out.crash (hR.ok 0 rfl) (by omega)
        have HCR := Lib.hid hCR
        obtain ⟨s9, hs9⟩ : ∃ s9, crashS s [1000] (-1) = s9 := ⟨_, rfl⟩
        rw [hs9] at HCR
        have HS9 := Lib.hid hs9
        have hrd : readR s9 1 = (s9.b 1, 0) := by unfold readR; rw [if_neg (by decide), if_neg (by rw [HCR.out.2.1]; decide)]
        have hst : stepS s9 = s9 := by unfold stepS; rw [if_pos (by rw [HCR.out.2.2]; decide)]
        have hsy : (syncR s9).1 = 0 := by unfold syncR; rw [if_neg (by rw [HCR.out.2.1]; decide), hst, if_neg (by rw [HCR.out.2.1]; decide)]
        clear hz12 hCR hs9 hlt hst
        go_upto_region 29 with (go_at_call 16; refine (hR.crash 0 rfl ((E.refl wr).alloc (.cells #[.int .i64 1000] 3)) (some ⟨wr.heap.size, 0, none⟩) 1 1 [1000] (-1) (newNums wr .i64 3 [1000] (by decide) (by decide)) (apartW.new _ _ _) (by decide) (by decide)).mono ?_; rintro e w5 ⟨rfl, hR5⟩)
        rw [HS9.out] at hR5
        have hR5' := room1 hR5
        clear hR5 hR
        go_upto_region 30 with (go_at_call 17; refine (hR5'.read 0 rfl 1 (by decide) (by decide)).mono ?_; rintro e w6 ⟨⟨A6, n6, c6, rfl, hO6, hE6⟩, hR6⟩; simp only [hrd] at hO6 ⊢)
        have hn6 : n6 = z := by rw [← hO6.1]; exact HCR.out.1
        subst hn6
        clear hO6 hE6 hR5'
        go_wp2_with (first
          | (go_at_call 24; refine (hR6.on 0 rfl).mono ?_; rintro e w7 ⟨rfl, hw⟩; rw [HCR.out.2.1, hw]; clear hw)
          | (go_at_call 15; refine (hR6.sync 0 rfl).mono ?_; rintro e w8 ⟨rfl, hR8⟩; rw [hsy])
          | (go_at_call 19; refine (lives_c _).mono ?_; rintro e w9 ⟨rfl, hE9⟩))
        go_ret
        exact ⟨rfl, hR8.e_.trans hE9⟩
    · have dlt : decide (i < n) = false := by simpa using hlt
      have hz12 : z ≤ 12 := by have := HP.out.top; have := HK.out; omega
      have hCR := HP.out.crash (hR.ok 0 rfl) (by omega)
      have HCR := Lib.hid hCR
      obtain ⟨s9, hs9⟩ : ∃ s9, crashS s [1000] (-1) = s9 := ⟨_, rfl⟩
      rw [hs9] at HCR
      have HS9 := Lib.hid hs9
      have hrd : readR s9 1 = (s9.b 1, 0) := by unfold readR; rw [if_neg (by decide), if_neg (by rw [HCR.out.2.1]; decide)]
      have hst : stepS s9 = s9 := by unfold stepS; rw [if_pos (by rw [HCR.out.2.2]; decide)]
      have hsy : (syncR s9).1 = 0 := by unfold syncR; rw [if_neg (by rw [HCR.out.2.1]; decide), hst, if_neg (by rw [HCR.out.2.1]; decide)]
      clear hz12 hCR hs9 hlt hst
      go_upto_region 29 with (go_at_call 16; refine (hR.crash 0 rfl ((E.refl wr).alloc (.cells #[.int .i64 1000] 3)) (some ⟨wr.heap.size, 0, none⟩) 1 1 [1000] (-1) (newNums wr .i64 3 [1000] (by decide) (by decide)) (apartW.new _ _ _) (by decide) (by decide)).mono ?_; rintro e w5 ⟨rfl, hR5⟩)
      rw [HS9.out] at hR5
      have hR5' := room1 hR5
      clear hR5 hR
      go_upto_region 30 with (go_at_call 17; refine (hR5'.read 0 rfl 1 (by decide) (by decide)).mono ?_; rintro e w6 ⟨⟨A6, n6, c6, rfl, hO6, hE6⟩, hR6⟩; simp only [hrd] at hO6 ⊢)
      have hn6 : n6 = z := by rw [← hO6.1]; exact HCR.out.1
      subst hn6
      clear hO6 hE6 hR5'
      go_wp2_with (first
        | (go_at_call 24; refine (hR6.on 0 rfl).mono ?_; rintro e w7 ⟨rfl, hw⟩; rw [HCR.out.2.1, hw]; clear hw)
        | (go_at_call 15; refine (hR6.sync 0 rfl).mono ?_; rintro e w8 ⟨rfl, hR8⟩; rw [hsy])
        | (go_at_call 19; refine (lives_c _).mono ?_; rintro e w9 ⟨rfl, hE9⟩))
      go_ret
      exact ⟨rfl, hR8.e_.trans hE9⟩
end Go.Proofs.Ythcicfolabngcaa
