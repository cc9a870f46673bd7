/- Lemmas of the claim, joined: LawDX. No condition. -/
import Derived.Test.YthcicfolabngcaaGD
import Derived.Test.YthcicfolabngcaaGC
/- DiskPrefix returns true. -/
namespace Go.Proofs.Ythcicfolabngcaa
open Go.RowKit

theorem xor_self_u8 : ∀ x : Fin 256, bits .xor .u8 ((x.val : Nat) : Int) ((x.val : Nat) : Int) = 0 := by decide +kernel
theorem xor_flip_u8 : ∀ (x : Fin 256) (p : Fin 8), bits .xor .u8 (flipB ((x.val : Nat) : Int) p.val) ((x.val : Nat) : Int) = ((2 ^ (7 - p.val) : Nat) : Int) := by decide +kernel
theorem xor_same {v : Int} (hv : (Lit.int .u8 v).wf = true) : bits .xor .u8 v v = 0 := by
  obtain ⟨h0, h1⟩ := wf_u8 hv
  obtain ⟨n, rfl⟩ : ∃ n : Nat, v = n := ⟨v.toNat, by omega⟩
  exact xor_self_u8 ⟨n, by omega⟩
theorem xor_flip {v : Int} (hv : (Lit.int .u8 v).wf = true) {p : Nat} (hp : p < 8) : bits .xor .u8 (flipB v p) v = ((2 ^ (7 - p) : Nat) : Int) := by
  obtain ⟨h0, h1⟩ := wf_u8 hv
  obtain ⟨n, rfl⟩ : ∃ n : Nat, v = n := ⟨v.toNat, by omega⟩
  exact xor_flip_u8 ⟨n, by omega⟩ ⟨p, hp⟩
/-- the bit in which byte i differs -/
theorem LeftS.bit {all y : List Int} {firm n : Nat} {inv : Bool} (h : LeftS all firm n inv y) (hn : n ≤ all.length) (hw : ∀ x ∈ all, (Lit.int .u8 x).wf = true) :
    ∃ pos, (inv = true → pos < n) ∧ ∀ i a b, y[i]? = some a → all[i]? = some b → (inv = true ∧ i = pos ∧ ∃ t, t < 8 ∧ bits .xor .u8 a b = ((2 ^ t : Nat) : Int)) ∨ (¬ (inv = true ∧ i = pos) ∧ bits .xor .u8 a b = 0) := by
  unfold LeftS at h
  split at h
  · rename_i hi
    obtain ⟨pos, p, v, hp, _, hpn, hv, rfl⟩ := h
    refine ⟨pos, fun _ => hpn, fun i a b ha hb => ?_⟩
    have hbw := hw b (List.mem_of_getElem? hb)
    by_cases e : i = pos
    · subst e
      rw [List.getElem?_set_self (by rw [List.length_take]; omega)] at ha
      injection ha with ha
      rw [hv] at hb
      injection hb with hb
      subst hb
      exact .inl ⟨hi, rfl, 7 - p, by omega, by rw [← ha]; exact xor_flip hbw hp⟩
    · rw [List.getElem?_set_ne (fun e' => e e'.symm)] at ha
      have hin : i < n := by have := (List.getElem?_eq_some_iff.1 ha).1; rw [List.length_take] at this; omega
      rw [List.getElem?_take_of_lt hin, hb] at ha
      injection ha with ha
      exact .inr ⟨fun x => e x.2, by rw [ha]; exact xor_same (ha ▸ hbw)⟩
  · rename_i hi
    refine ⟨0, fun x => absurd x hi, fun i a b ha hb => .inr ⟨fun x => hi x.1, ?_⟩⟩
    have hin : i < n := by have := (List.getElem?_eq_some_iff.1 ha).1; rw [h, List.length_take] at this; omega
    rw [h, List.getElem?_take_of_lt hin, hb] at ha
    injection ha with ha
    rw [ha]
    exact xor_same (ha ▸ hw b (List.mem_of_getElem? hb))
theorem prefix_n {L f n : Nat} {k : Int} (h : (n : Int) = f + max 0 (min k ((L : Int) - f))) (h1 : f ≤ n) (h2 : n ≤ L) (h3 : L ≤ 120) : RowKit.wrap64 ((f : Int) + max 0 (min k (RowKit.wrap64 ((L : Int) - f)))) = n := by
  have e : RowKit.wrap64 ((L : Int) - f) = L - f := by unfold RowKit.wrap64; omega
  rw [e, ← h]
  unfold RowKit.wrap64
  omega
/-- the bits of v are still to be counted: T of them have been, at the end it is T2 -/
def LeftB (v T T2 : Nat) : Prop := (∃ t, t < 8 ∧ v = 2 ^ t ∧ T + 1 = T2) ∨ (v = 0 ∧ T = T2)
theorem LeftB.step {v T T2 : Nat} (h : LeftB v T T2) (hv : 0 < v) : LeftB (v / 2) (T + v % 2) T2 := by
  rcases h with ⟨t, ht, rfl, h⟩ | ⟨h, _⟩
  · cases t with
    | zero => exact .inr ⟨rfl, h⟩
    | succ t => exact .inl ⟨t, by omega, by rw [Nat.pow_succ]; omega, by rw [Nat.pow_succ]; omega⟩
  · omega
theorem LeftB.small {v T T2 : Nat} (h : LeftB v T T2) : v ≤ 128 := by
  rcases h with ⟨t, ht, rfl, _⟩ | ⟨h, _⟩
  · exact Nat.pow_le_pow_right (by decide) (show t ≤ 7 by omega)
  · omega
theorem LeftB.le {v T T2 : Nat} (h : LeftB v T T2) : T ≤ T2 := by
  rcases h with ⟨t, ht, rfl, h⟩ | ⟨_, h⟩ <;> omega
theorem LeftB.end_ {T T2 : Nat} (h : LeftB 0 T T2) : T = T2 := by
  rcases h with ⟨t, ht, h1, h⟩ | ⟨_, h⟩
  · have := Nat.pow_pos (n := t) (show 0 < 2 by decide); omega
  · exact h
def turnS (inv : Bool) (pos i : Nat) : Nat := if inv = true ∧ pos < i then 1 else 0
theorem turnS_le (inv : Bool) (pos i : Nat) : turnS inv pos i ≤ 1 := by unfold turnS; split <;> omega
theorem leftB_of {inv : Bool} {pos i : Nat} {z : Int} (h : (inv = true ∧ i = pos ∧ ∃ t, t < 8 ∧ z = ((2 ^ t : Nat) : Int)) ∨ (¬ (inv = true ∧ i = pos) ∧ z = 0)) : ∃ v : Nat, z = v ∧ LeftB v (turnS inv pos i) (turnS inv pos (i + 1)) := by
  rcases h with ⟨h1, rfl, t, ht, rfl⟩ | ⟨h, rfl⟩
  · refine ⟨2 ^ t, rfl, .inl ⟨t, ht, rfl, ?_⟩⟩
    unfold turnS
    rw [if_neg (by omega), if_pos ⟨h1, by omega⟩]
  · refine ⟨0, rfl, .inr ⟨rfl, ?_⟩⟩
    unfold turnS
    by_cases h1 : inv = true
    · by_cases h2 : pos < i
      · rw [if_pos ⟨h1, h2⟩, if_pos ⟨h1, by omega⟩]
      · rw [if_neg (by omega), if_neg (fun x => h ⟨h1, by omega⟩)]
    · rw [if_neg (fun x => h1 x.1), if_neg (fun x => h1 x.1)]
set_option maxHeartbeats 4000000 in
set_option maxRecDepth 100000 in
theorem diskPrefix_w (sy keep flip : Int) (A : Option Addr) (n c : Nat) (L : List (List Int)) (w : World) (hN : PartsAt w A n c L)
    (r1 : -9223372036854775808 ≤ sy) (r2 : sy ≤ 9223372036854775807) (f1 : -9223372036854775808 ≤ keep) (f2 : keep ≤ 9223372036854775807) (s1 : -9223372036854775808 ≤ flip) (s2 : flip ≤ 9223372036854775807) :
    Calls Try.prog 3 #[.slice A n c, .int .i64 sy, .int .i64 keep, .int .i64 flip] w (RetK w true) := by
  have HB := Lib.hid (And.intro r1 (And.intro r2 (And.intro f1 (And.intro f2 (And.intro s1 s2)))))
  have hn63 := hN.n63
  have HN := Lib.hid hN
  clear hN r1 r2 f1 f2 s1 s2
  obtain ⟨q, hq⟩ : ∃ q : Nat, aroN sy 6 = q := ⟨(aroN sy 6).toNat, by have := aroN_range sy (show (0 : Int) < 6 by decide); omega⟩
  have HQ := Lib.hid hq
  clear hq
  go_enter Try.func3, Try.ntmps3
  go_upto_region 4 with (go_at_call 11; refine (room_new (Room.nil w) 1000 (by decide) (by decide)).mono ?_; rintro e w1 ⟨g, rfl, hR, hE1⟩)
  have hR1 : Room w w1 [DiskT g 0 (newS 1000), OwnT .u8 5 none 0 0 []] := hR.nilRow .u8 5
  clear hR hE1
  go_wp2_with (go_at_call 12; refine (around1_c sy 6 _ HB.out.1 HB.out.2.1 (by decide) (by decide)).mono ?_; rintro e w' ⟨rfl, hw⟩; rw [HQ.out, ← hw]; clear hw)
  go_loopw [14, 12, 11] (fun t14 t12 t11 wr => ∃ (i firm k n5 c5 : Nat) (A5 : Option Addr) (all : List Int) (s : DS), t14 = .int .i64 i ∧ t12 = .int .i64 firm ∧ t11 = .slice A5 n5 c5 ∧ i ≤ n ∧ i ≤ 6 ∧ k ≤ i ∧ all.length ≤ 20 * i ∧ OneS 9 1000 all firm s ∧ Room w wr [DiskT g k s, OwnT .u8 5 A5 n5 c5 all]) (fun t14 _ _ _ => 6 - (intOf t14).toNat)
  case atStart => exact ⟨0, 0, 0, 0, 0, none, [], _, rfl, rfl, rfl, Nat.zero_le _, Nat.zero_le _, Nat.le_refl _, Nat.le_refl _, OneS.zero 9 1000, hR1⟩
  case round =>
    obtain ⟨i, firm, k, n5, c5, A5, all, s, rfl, rfl, rfl, hi, hi6, hk, hal, hS, hR⟩ := hrel
    have HK := Lib.hid (And.intro hi (And.intro hi6 hk))
    have HS := Lib.hid hS
    have HAL := Lib.hid hal
    clear hR1 hi hi6 hk hS hal
    obtain ⟨bb, hbb⟩ : ∃ bb, (decide (i < n) && decide (i < 6)) = bb := ⟨_, rfl⟩
    have HBB := Lib.hid hbb
    clear hbb
    go_upto_region 8 with fail
    go_cut [41] (fun t41 wx => t41 = .bool bb ∧ wr = wx)
    case first =>
      by_cases hlt : i < n
      · have dlt : decide (i < n) = true := by simpa using hlt
        go_wp2_with fail
        go_meet
        refine ⟨?_, rfl⟩
        rw [← HBB.out, dlt]
        simp
        omega
      · have dlt : decide (i < n) = false := by simpa using hlt
        go_wp2_with fail
        go_meet
        refine ⟨?_, rfl⟩
        rw [← HBB.out, dlt]
        rfl
    case rest =>
      obtain ⟨rfl, rfl⟩ := hcut
      cases bb with
      | true =>
        obtain ⟨hlt, h6⟩ : i < n ∧ i < 6 := by simpa using HBB.out
        have dlt : decide (i < n) = true := by simpa using hlt
        have d6 : decide ((i : Int) < 6) = true := by simp; omega
        obtain ⟨b, o, x, A', n', c', hA, hb, hx, hcx, hNx⟩ := (HN.out.e hR.e_).get hlt
        subst hA
        have HLT := Lib.hid (And.intro hlt h6)
        clear hx
        go_upto_region 11 with (go_at_call 13; refine (fewN_c 20 (by decide) _ _ _ _ _ hNx).mono ?_; rintro e w2 ⟨A2, n2, c2, rfl, hO2, hE2⟩)
        have hR2 : Room w w2 [DiskT g k s, OwnT .u8 5 A5 n5 c5 all, NumsT .u8 A2 n2 c2 (x.take 20)] := hR.own hE2 hO2
        have HLX := Lib.hid (show (x.take 20).length ≤ 20 by rw [List.length_take]; omega)
        generalize x.take 20 = y at *
        have HLN := Lib.hid hO2.1
        clear hR hNx hE2 hO2 hcx hb hlt
        go_upto_region 12 with (go_at_call 14; refine (hR2.appendT 0 rfl 2 (by decide) rfl 9 _ _ _ y (by decide) (by decide) id (fun h => ⟨h, rfl⟩) (by have := HK.out; omega)).mono ?_; rintro e w3 ⟨rfl, hR3⟩)
        have hAP := HS.out.app (f := 9) (by decide) y (by have := HLX.out; have := HAL.out; have := HK.out; omega)
        obtain ⟨s', hs'⟩ : ∃ s', (appR s 9 y).2 = s' := ⟨_, rfl⟩
        rw [hs'] at hAP hR3
        have HAP := Lib.hid hAP.2
        have hR3' : Room w w3 [DiskT g (k + 1) s', OwnT .u8 5 A5 n5 c5 all, NumsT .u8 A2 n2 c2 y] := hR3
        have hn5 := (hR3'.ownAt 1 rfl).1
        have HFT := Lib.hid (show n5 + n2 ≤ 1099511627776 by have := HLX.out; have := HLN.out; have := HAL.out; have := HK.out; omega)
        clear hAP hs' hR2 hR3
        go_upto_region 13 with (at_builtin; refine wpList_appF byteT w3 rfl _ _ rfl A5 n5 c5 all rfl (hR3'.ownAt 1 rfl) A2 n2 c2 y rfl (hR3'.nums 2 rfl) HFT.out ?_; intro A6 c6 w4 hO4 hG4 hb4)
        have hR4 : Room w w4 [DiskT g (k + 1) s', OwnT .u8 5 A6 (n5 + n2) c6 (all ++ y)] := (hR3'.appOwn 1 rfl hO4 hG4 hb4).drop 2
        have hl4 := hO4.1
        have HLL := Lib.hid (show (all ++ y).length ≤ 20 * (i + 1) by rw [List.length_append]; have := HLX.out; have := HAL.out; omega)
        generalize all ++ y = all2 at *
        clear hO4 hG4 hb4 hR3'
        have HM := Lib.hid (show 6 - (intOf (.int .i64 ((i : Int) + 1))).toNat < 6 - (intOf (.int .i64 (i : Int))).toNat by have := HLT.out; simp only [intOf]; omega)
        by_cases hiq : i = q
        · subst hiq
          go_wp2_with (go_at_call 15; refine (hR4.sync 0 rfl).mono ?_; rintro e w5 ⟨rfl, hR5⟩)
          have hl : ((n5 + n2 : Nat) : Int) = (all2.length : Nat) := by rw [hl4]
          exact ⟨⟨i + 1, all2.length, k + 1, n5 + n2, c6, A6, all2, (syncR s').2, by go_num, by first | rfl | (rw [← hl]; go_num), by first | rfl | simp, HLT.out.1, HLT.out.2, by have := HK.out; omega, HLL.out, HAP.out.sync, hR5⟩, HM.out⟩
        · have hne : ((i : Int) == (q : Int)) = false := by simp; omega
          have HNE := Lib.hid hiq
          clear hiq
          go_wp2_with fail
          exact ⟨⟨i + 1, firm, k + 1, n5 + n2, c6, A6, all2, s', by go_num, rfl, by first | rfl | simp, HLT.out.1, HLT.out.2, by have := HK.out; omega, HLL.out, HAP.out, hR4⟩, HM.out⟩
      | false =>
        clear HBB
        have hOK := hR.ok 0 rfl
        obtain ⟨nn, hnn, hfn, hna, hoff, hLe⟩ := HS.out.crash hOK keep flip
        obtain ⟨s9, hs9⟩ : ∃ s9, crashS s [keep] flip = s9 := ⟨_, rfl⟩
        rw [hs9] at hoff hLe
        have HS9 := Lib.hid hs9
        have hrd : readR s9 9 = (s9.b 9, 0) := by unfold readR; rw [if_neg (by decide), if_neg (by rw [hoff]; decide)]
        have hln := hLe.len hna
        have HFI := Lib.hid (hLe.firm_ hfn)
        have hwf := (hR.ownAt 1 rfl).2.2
        have hn5 := (hR.ownAt 1 rfl).1
        obtain ⟨inv, hinv⟩ : ∃ inv, decide (0 ≤ flip ∧ firm < nn) = inv := ⟨_, rfl⟩
        rw [hinv] at hLe
        obtain ⟨pos, hpos, hbit⟩ := hLe.bit hna hwf
        have HBIT := Lib.hid hbit
        have HPOS := Lib.hid hpos
        have HINV := Lib.hid hinv
        have HNN := Lib.hid (show (nn : Int) = firm + max 0 (min keep ((n5 : Int) - firm)) by rw [← hn5]; exact hnn)
        have HLE := Lib.hid (And.intro hfn (And.intro (show nn ≤ n5 by rw [← hn5]; exact hna) (show n5 ≤ 120 by rw [← hn5]; have := HAL.out; have := HK.out; omega)))
        clear hs9 hoff hLe hwf hn5 hinv hpos hbit hnn hfn hna hOK
        generalize s9.b 9 = x at *
        go_upto_region 17 with (go_at_call 16; refine (hR.crash 0 rfl ((E.refl wr).alloc (.cells #[.int .i64 keep] 3)) (some ⟨wr.heap.size, 0, none⟩) 1 1 [keep] flip (newNums wr .i64 3 [keep] (fun z hz => by rw [List.mem_singleton.1 hz]; exact wf_of_i64 HB.out.2.2.1 HB.out.2.2.2.1) (show 1 ≤ 1000 by decide)) (apartW.new _ _ _) HB.out.2.2.2.2.1 HB.out.2.2.2.2.2).mono ?_; rintro e w5 ⟨rfl, hR5⟩)
        rw [HS9.out] at hR5
        have hR5' : Room w w5 [DiskT g k s9, OwnT .u8 5 A5 n5 c5 all] := hR5
        clear hR hR5
        go_upto_region 18 with (go_at_call 17; refine (hR5'.read 0 rfl 9 (by decide) (by decide)).mono ?_; rintro e w6 ⟨⟨A6, n6, c6, rfl, hO6, hE6⟩, hR6⟩; simp only [hrd] at hO6 ⊢)
        have hn6 : n6 = nn := by rw [← hO6.1]; exact hln
        subst hn6
        have hX := hO6.reads
        have hA := (hR6.ownAt 1 rfl).reads
        have HE6 := Lib.hid hR6.e_
        clear hO6 hE6 hR5' hR6 hln hrd
        go_cut [18] (fun t18 wx => t18 = .int .i64 n6 ∧ w6 = wx)
        case first =>
          have hb1 := HB.out.2.2.1
          have hb2 := HB.out.2.2.2.1
          go_wp2_with fail
          all_goals go_meet
          all_goals (refine ⟨?_, rfl⟩; congr 1; exact prefix_n HNN.out HLE.out.1 HLE.out.2.1 HLE.out.2.2)
        case rest =>
          obtain ⟨rfl, rfl⟩ := hcut
          go_wp2_with fail
          go_loopw [20, 19] (fun t20 t19 wr => ∃ i2 : Nat, t20 = .int .i64 i2 ∧ t19 = .int .i64 (turnS inv pos i2) ∧ i2 ≤ n6 ∧ E w6 wr) (fun t20 _ _ => n6 - (intOf t20).toNat)
          case atStart => exact ⟨0, rfl, by unfold turnS; simp, Nat.zero_le _, E.refl _⟩
          case round =>
            obtain ⟨i2, rfl, rfl, hi2, hE⟩ := hrel
            have HT := Lib.hid (turnS_le inv pos i2)
            have hL := HLE.out
            by_cases hlt : i2 < n6
            · have dlt : decide (i2 < n6) = true := by simpa using hlt
              obtain ⟨b1, o1, y1, hA1, hb1, hy1, hw1, hc1⟩ := (hX.e hE).get hlt
              obtain ⟨b2, o2, y2, hA2, hb2, hy2, hw2, hc2⟩ := (hA.e hE).get (i := i2) (by omega)
              subst hA1 hA2
              obtain ⟨v, hv, hLB⟩ := leftB_of (HBIT.out i2 y1 y2 hy1 hy2)
              have hlt5 : (i2 : Int) < (n5 : Int) := by omega
              have hltI : (i2 : Int) < (n6 : Int) := by omega
              have HV := Lib.hid hv
              have HLB := Lib.hid hLB
              clear hv hLB hy1 hy2
              go_wp2_with fail
              (refine wp_region_quiet_lit (by kernel_rfl) (by kernel_rfl) ?_; (repeat (first | ((with_reducible refine wpQuiet_step (fun K hK => ?_)); go_simp; (with_reducible refine hK _ ?_); clear hK K) | ((with_reducible refine wpQuiet_off (by kernel_rfl) (fun K hK => ?_)); go_simp; (with_reducible refine hK _ ?_); clear hK K))); (with_reducible refine wpQuiet_nil ?_); intro _ hw'; obtain ⟨nq, hw''⟩ := hw'; subst hw'')
              go_wp2_with fail
              obtain ⟨w7, hw7⟩ : ∃ w7, w7 = wr := ⟨_, rfl⟩
              subst hw7
              go_loopw [21, 19] (fun t21 t19 wr => ∃ v T : Nat, t21 = .int .u8 v ∧ t19 = .int .i64 T ∧ T ≤ 1 ∧ LeftB v T (turnS inv pos (i2 + 1)) ∧ E w6 wr) (fun t21 _ _ => (intOf t21).toNat)
              case atStart => exact ⟨v, _, by rw [HV.out], rfl, HT.out, HLB.out, by first | exact hE | exact hE.drewN _ | exact hE.drew⟩
              case round =>
                obtain ⟨v2, T, rfl, rfl, hT1, hLB, hE2⟩ := hrel
                have HLB2 := Lib.hid hLB
                have hv8 := hLB.small
                clear hLB
                by_cases hv0 : 0 < v2
                · have d0 : decide ((0 : Int) < (v2 : Int)) = true := by simp; omega
                  have e1 : (v2 : Int).tmod 2 = ((v2 % 2 : Nat) : Int) := by rw [Int.tmod_eq_emod_of_nonneg (by omega)]; omega
                  have e2 : (v2 : Int).tdiv 2 = ((v2 / 2 : Nat) : Int) := by rw [Int.tdiv_eq_ediv_of_nonneg (by omega)]; omega
                  have hr1 : v2 % 2 ≤ 1 := by omega
                  have HN2 := Lib.hid (show T + v2 % 2 ≤ 1 by have := (HLB2.out.step hv0).le; have := turnS_le inv pos (i2 + 1); omega)
                  have HM2 := Lib.hid (show v2 / 2 < v2 by omega)
                  go_wp2_with fail
                  exact ⟨⟨v2 / 2, T + v2 % 2, by rw [show ((v2 : Int) / 2) = ((v2 / 2 : Nat) : Int) by omega], by go_num, HN2.out, HLB2.out.step hv0, hE2⟩, by simp only [intOf]; have := HM2.out; omega⟩
                · obtain rfl : v2 = 0 := by omega
                  have HTE := Lib.hid (HLB2.out.end_)
                  have HM2 := Lib.hid (show i2 + 1 ≤ n6 by omega)
                  clear hv0 hv8
                  go_wp2_with fail
                  exact ⟨⟨i2 + 1, by go_num, by rw [HTE.out], HM2.out, hE2⟩, by have := HM2.out; simp only [intOf]; omega⟩
            · have dlt : decide (i2 < n6) = false := by simpa using hlt
              have HIE := Lib.hid (show i2 = n6 by omega)
              have hX2 := hX.e hE
              have hA2 := hA.e hE
              have hcx := hX2.cap
              have hca := hA2.cap
              have hx63 := hX2.c63
              have ha63 := hA2.c63
              have hfx : (firm : Int) ≤ (c6 : Int) := by omega
              have hfa : (firm : Int) ≤ (c5 : Int) := by omega
              have hf0 : (0 : Int) ≤ (firm : Int) := by omega
              have HC := Lib.hid (fun wn (hEn : E wr wn) => (sameBytes_c _ _ _ _ _ _ (x.take firm) (all.take firm) wn ((hX2.e hEn).takeB firm (by omega)) ((hA2.e hEn).takeB firm (by omega))).mono fun e wm h => show RetK wr true e wm from ⟨h.1.trans (by rw [HFI.out, show sameB (all.take firm) (all.take firm) = true by simp [sameB]]), by obtain ⟨m, hm⟩ := h.2; rw [hm]; exact hEn.drewN m⟩)
              have HE := Lib.hid (HE6.out.trans hE)
              cases inv with
              | true =>
                obtain ⟨h0, hf⟩ : 0 ≤ flip ∧ firm < n6 := by simpa using HINV.out
                have hT : turnS true pos i2 = 1 := by unfold turnS; rw [if_pos ⟨rfl, by rw [HIE.out]; exact HPOS.out rfl⟩]
                have d1 : decide (0 ≤ flip) = true := by simpa using h0
                have d2 : decide (firm < n6) = true := by simpa using hf
                simp only [hT]
                clear hlt hX2 hA2 hE HT
                have hEa := (E.refl wr).drew
                obtain ⟨w8, hw8⟩ : ∃ w8, w8 = wr := ⟨_, rfl⟩
                subst hw8
                go_upto_region 30 with fail
                go_region_held3 (fun w' => w8.heap.size ≤ w'.heap.size ∧ ∀ b o, b < w8.heap.size → w'.cell? ⟨b, o, none⟩ = w8.cell? ⟨b, o, none⟩) (exact keepE hEa)
                  (first
                    | (go_at_call 18; refine (HC.out _ hEa).mono ?_; rintro e wn ⟨rfl, hEn⟩; replace hEa := hEn)
                    | (go_at_call 19; refine (lives_c _).mono ?_; rintro e wn ⟨rfl, hEn⟩; replace hEa := hEa.trans hEn))
                all_goals (
                  go_wp2_with fail
                  go_ret
                  exact ⟨rfl, HE.out.trans hEa⟩)
              | false =>
                have hT : turnS false pos i2 = 0 := by unfold turnS; rw [if_neg (by simp)]
                simp only [hT]
                clear hlt hX2 hA2 hE HT
                have hI : ¬ (0 ≤ flip ∧ firm < n6) := by simpa using HINV.out
                by_cases h0 : 0 ≤ flip
                · have d1 : decide (0 ≤ flip) = true := by simpa using h0
                  have d2 : decide (firm < n6) = false := by simp; omega
                  clear h0 hI
                  go_wp2_with (go_at_call 19; refine (lives_c _).mono ?_; rintro e w9 ⟨rfl, hE9⟩)
                  go_ret
                  exact ⟨rfl, HE.out.trans hE9⟩
                · have d1 : decide (0 ≤ flip) = false := by simpa using h0
                  clear h0 hI
                  go_wp2_with (go_at_call 19; refine (lives_c _).mono ?_; rintro e w9 ⟨rfl, hE9⟩)
                  go_ret
                  exact ⟨rfl, HE.out.trans hE9⟩
end Go.Proofs.Ythcicfolabngcaa
