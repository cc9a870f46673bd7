/- Lemmas of the claim, joined: LawDG. No condition. -/
import Derived.Test.YthcicfolabngcaaJC
import Derived.Test.YthcicfolabngcaaJD
/- DiskBags returns true. -/
namespace Go.Proofs.Ythcicfolabngcaa
open Go.RowKit

theorem uv_pos8 (n : Nat) : 0 < (uv n).length := by
  by_cases h : n < 128
  · rw [uv_small h]; simp
  · rw [uv_big h]; simp
theorem aro_nat9 (a : Int) {m : Int} (hm : 0 < m) : ∃ z : Nat, aroN a m = z ∧ (z : Int) < m := by
  obtain ⟨h1, h2⟩ := aroN_range a hm
  generalize aroN a m = r at *
  exact ⟨r.toNat, by omega, by omega⟩
theorem Nums.dropG {k : IntKind} {w : World} {b n c : Nat} {l : List Int} (h : Nums k w (some ⟨b, 0, none⟩) n c l) {m : Nat} (hm : m ≤ n) : Nums k w (some ⟨b, m, none⟩) (n - m) (c - m) (l.drop m) :=
  ⟨by rw [List.length_drop, h.len], by have := h.cap; omega, by have := h.mx; omega, fun x hx => h.wf x (List.mem_of_mem_drop hx), fun h0 => by
    obtain ⟨b', o', e, hb, hc⟩ := h.at_ (by omega)
    injection e with e
    injection e with e1 e2
    subst e1 e2
    refine ⟨b, m, rfl, hb, fun i hi => ?_⟩
    rw [List.getElem_drop]
    have := hc (m + i) (by rw [List.length_drop] at hi; omega)
    rwa [Nat.zero_add] at this⟩
theorem Nums.dropE {k : IntKind} {w : World} {b n c : Nat} {l : List Int} (h : Nums k w (some ⟨b, 0, none⟩) n c l) {m : Nat} (hm : m ≤ n) (e : c = m) : Nums k w (some ⟨b, 0, none⟩) (n - m) (c - m) (l.drop m) := by
  have hc := h.cap
  have hl := h.len
  rw [show n - m = 0 by omega, List.drop_eq_nil_of_le (by omega)]
  exact Nums.nil k w _ _ (by have := h.mx; omega)
theorem Nums.dropI (b n c m : Nat) : ∃ ab, (if c = m then some (⟨b, 0, none⟩ : Addr) else some ⟨b, m, none⟩) = some ⟨b, ab, none⟩ ∧ ∀ (k : IntKind) (w : World) (l : List Int), m ≤ n → Nums k w (some ⟨b, 0, none⟩) n c l → Nums k w (some ⟨b, ab, none⟩) (n - m) (c - m) (l.drop m) := by
  by_cases e : c = m
  · exact ⟨0, by rw [if_pos e], fun _ _ _ hm h => h.dropE hm e⟩
  · exact ⟨m, by rw [if_neg e], fun _ _ _ hm h => h.dropG hm⟩
theorem Nums.grown9 {k : IntKind} {w w' : World} {A : Option Addr} {n c : Nat} {l : List Int} {row : Option Nat} (h : Nums k w A n c l) (hg : w.grownBy w' row) (hr : 0 < n → ob A ≠ row) : Nums k w' A n c l :=
  ⟨h.len, h.cap, h.mx, h.wf, fun hn => by
    obtain ⟨b, o, e, hb, hc⟩ := h.at_ hn
    have hne : some b ≠ row := fun e' => hr hn (by rw [e, ← e']; rfl)
    exact ⟨b, o, e, Nat.lt_of_lt_of_le hb hg.size, fun i hi => by rw [← hc i hi]; exact World.cell?_of_block (hg.block b hb hne)⟩⟩
theorem room2 {w0 w : World} {T T' : World → (Nat → Prop) → Prop} {L : List (World → (Nat → Prop) → Prop)} (h : Room w0 w ((T :: L).set 0 T')) : Room w0 w (T' :: L) := h
set_option maxHeartbeats 8000000 in
set_option maxRecDepth 100000 in
theorem diskBags_w (cut flip : Int) (A : Option Addr) (n c : Nat) (l : List Int) (A1 : Option Addr) (n1 c1 : Nat) (l1 : List Int) (A2 : Option Addr) (n2 c2 : Nat) (l2 : List Int) (w : World) (hN : Nums .i64 w A n c l) (hN1 : Nums .i64 w A1 n1 c1 l1) (hN2 : Nums .i64 w A2 n2 c2 l2)
    (r1 : -9223372036854775808 ≤ cut) (r2 : cut ≤ 9223372036854775807) (f1 : -9223372036854775808 ≤ flip) (f2 : flip ≤ 9223372036854775807) :
    Calls Try.prog 10 #[.slice A n c, .slice A1 n1 c1, .int .i64 cut, .slice A2 n2 c2, .int .i64 flip] w (RetK w true) := by
  have HB := Lib.hid (And.intro (And.intro r1 r2) (And.intro f1 f2))
  have HN := Lib.hid hN
  have HN1 := Lib.hid hN1
  have HN2 := Lib.hid hN2
  clear hN hN1 hN2 r1 r2 f1 f2
  obtain ⟨a, ha, ha6, hab⟩ : ∃ a, bagL 6 l 0 = a ∧ a.length ≤ 6 ∧ isBagB a = true := ⟨_, rfl, by rw [bagL_len]; exact Nat.le_refl _, bagL_bag _ _ _ (by decide)⟩
  obtain ⟨b, hb, hb6, hbb⟩ : ∃ b, bagL 6 l1 0 = b ∧ b.length ≤ 6 ∧ isBagB b = true := ⟨_, rfl, by rw [bagL_len]; exact Nat.le_refl _, bagL_bag _ _ _ (by decide)⟩
  have HA := Lib.hid ha
  have HBg := Lib.hid hb
  have HEA := Lib.hid (And.intro (enc_small ha6) (decode_encode hab))
  have HEB := Lib.hid (And.intro (enc_small hb6) (decode_encode hbb))
  obtain ⟨ea, hea⟩ : ∃ ea, encodeS a = ea := ⟨_, rfl⟩
  obtain ⟨eb, heb⟩ : ∃ eb, encodeS b = eb := ⟨_, rfl⟩
  rw [hea] at HEA
  rw [heb] at HEB
  have HEAE := Lib.hid hea
  have HEBE := Lib.hid heb
  clear ha hb ha6 hb6 hab hbb hea heb
  go_enter Try.func10, Try.ntmps10
  go_upto_region 4 with (go_at_call 11; refine (room_new (Room.nil w) 20000 (by decide) (by decide)).mono ?_; rintro e w1 ⟨g, rfl, hR, hE1⟩)
  have hR1 : Room w w1 [DiskT g 0 (newS 20000)] := hR
  have HX1 := Lib.hid (HN.out.e hE1)
  have HX2 := Lib.hid (HN1.out.e hE1)
  clear hR hE1
  go_upto_region 5 with (go_at_call 33; refine (bag_c 6 0 A n c l w1 HX1.out (by decide) (by decide)).mono ?_; rintro e w2 ⟨Aa, na, ca, rfl, hO2, hE2⟩; rw [HA.out] at hO2)
  have hR2 : Room w w2 [DiskT g 0 (newS 20000), NumsT .i64 Aa na ca a] := hR1.own hE2 hO2
  have HX3 := Lib.hid (HX2.out.e hE2)
  clear hR1 hO2 hE2
  go_upto_region 6 with (go_at_call 33; refine (bag_c 6 0 A1 n1 c1 l1 w2 HX3.out (by decide) (by decide)).mono ?_; rintro e w3 ⟨Ab, nb, cb, rfl, hO3, hE3⟩; rw [HBg.out] at hO3)
  have hR3 : Room w w3 [DiskT g 0 (newS 20000), NumsT .i64 Aa na ca a, NumsT .i64 Ab nb cb b] := hR2.own hE3 hO3
  clear hR2 hO3 hE3
  have hW4 := WrX.new w3
  have hE4 : E w3 (w3.alloc (.cells #[.slice none 0 0] 66)) := (E.refl w3).alloc _
  go_upto_region 7 with fail
  generalize w3.alloc (.cells #[.slice none 0 0] 66) = w4 at *
  have HR3 := Lib.hid hR3
  have HW4 := Lib.hid hW4
  have HE4 := Lib.hid hE4
  clear hR3 hW4 hE4
  go_upto_region 8 with (first
    | (go_at_call 35; refine (encode_c Aa na ca a w4 ((HR3.out.e HE4.out).nums 1 rfl)).mono ?_; rintro e w5 ⟨A5, n5, c5, rfl, hO5, hE5⟩; rw [HEAE.out] at hO5; have HL5 := Lib.hid hO5.1)
    | (go_at_call 34; refine (xRaw_c _ none 0 0 [] A5 n5 c5 ea w5 (HW4.out.e hE5) hO5.reads (fun _ => ⟨fun e => (by have := hO5.reads.at_ (by assumption); obtain ⟨q, o, e1, _⟩ := this; rw [e1] at e; cases e), fun e => (by have h1 := (hO5.ltN _ e).1; have h2 := lt_blk HW4.out.hd; omega)⟩) (by simp) (by have := HEA.out.1; rw [HL5.out] at this; omega)).mono ?_; rintro e w6 ⟨rfl, A6, n6, c6, hW6, hA6, hY6⟩))
  have hE36 : E w3 w6 := yx_e (HE4.out.trans hE5) hY6 (Nat.le_refl _) (fun b hb => by cases hb)
  have HE36 := Lib.hid hE36
  have HA6 := Lib.hid (show ∀ b, ob A6 = some b → w3.heap.size ≤ b from fun b hb => by
    rcases hA6 with h | h
    · rw [h] at hb; cases hb
    · have := h b hb; have := (HE4.out.trans hE5).le; omega)
  have HW6 := Lib.hid hW6
  clear hO5 hE5 hA6 hY6 hE36 hW6
  go_upto_region 9 with (first
    | (go_at_call 35; refine (encode_c Ab nb cb b w6 ((HR3.out.e HE36.out).nums 2 rfl)).mono ?_; rintro e w7 ⟨A7, n7, c7, rfl, hO7, hE7⟩; rw [HEBE.out] at hO7; have HL7 := Lib.hid hO7.1)
    | (go_at_call 34; refine (xRaw_c _ A6 n6 c6 _ A7 n7 c7 eb w7 (HW6.out.e hE7) hO7.reads (fun _ => ⟨fun e => (by obtain ⟨q, o, e1, _⟩ := hO7.reads.at_ (by assumption); rw [e1] at e; have h1 := (hO7.ltN q (by rw [e1]; rfl)).1; have h2 := (HW6.out.own.ltN q e.symm).2; omega), fun e => (by have h1 := (hO7.ltN _ e).1; have h2 := lt_blk HW6.out.hd; omega)⟩) (by have h1 := HEA.out.1; have h2 := uv_len10 (n := n5) (by rw [HL5.out] at h1; omega); simp only [List.length_append, List.length_nil]; omega) (by have := HEB.out.1; rw [HL7.out] at this; omega)).mono ?_; rintro e w8 ⟨rfl, A8, n8, c8, hW8, hA8, hY8⟩))
  have hE38 : E w3 w8 := yx_e (HE36.out.trans hE7) hY8 (Nat.le_refl _) HA6.out
  have HE38 := Lib.hid hE38
  have hal : [] ++ uv n5 ++ ea ++ uv n7 ++ eb = uv ea.length ++ ea ++ (uv eb.length ++ eb) := by rw [HL5.out, HL7.out]; simp
  rw [hal] at hW8
  have HAL := Lib.hid (show (uv ea.length ++ ea ++ (uv eb.length ++ eb)).length ≤ 300 by
    have h1 := HEA.out.1
    have h2 := HEB.out.1
    have h3 := uv_len10 (n := ea.length) (by omega)
    have h4 := uv_len10 (n := eb.length) (by omega)
    simp only [List.length_append]; omega)
  have HPOS := Lib.hid (show 0 < (uv ea.length ++ ea ++ (uv eb.length ++ eb)).length by
    have h3 := uv_pos8 ea.length
    simp only [List.length_append]; omega)
  obtain ⟨al, hale⟩ : ∃ al, uv ea.length ++ ea ++ (uv eb.length ++ eb) = al := ⟨_, rfl⟩
  rw [hale] at hW8 HAL HPOS
  have HALE := Lib.hid hale
  have HW8 := Lib.hid hW8
  clear hO7 hE7 hA8 hY8 hE38 hW8 hal hale HW4 HW6 HE4 HE36 HA6
  go_upto_region 10 with (go_at_call 36; refine (wDone_c w3.heap.size 0 al w8 HW8.out.wr (by have := HAL.out; omega)).mono ?_; rintro e w9 ⟨A9, n9, c9, rfl, hO9, hE9⟩)
  have hR9 : Room w w9 [DiskT g 0 (newS 20000), NumsT .i64 Aa na ca a, NumsT .i64 Ab nb cb b, NumsT .u8 A9 n9 c9 al] := (HR3.out.e HE38.out).own hE9 hO9
  have HL9 := Lib.hid hO9.1
  have h300 : n9 ≤ 300 := by rw [← hO9.1]; exact HAL.out
  obtain ⟨r9, rfl⟩ : ∃ r9, A9 = some ⟨r9, 0, none⟩ := by
    rcases hO9.form with ⟨_, h0, _⟩ | ⟨r, hr, _⟩
    · have := HPOS.out; rw [hO9.1] at this; omega
    · exact ⟨r, hr⟩
  have hc9 := hO9.reads.cap
  have hc963 := hO9.reads.c63
  clear hO9 hE9 HW8 HE38 HR3
  obtain ⟨kk, hkk, hkl⟩ := aro_nat9 cut (m := (n9 : Int) + 1) (by omega)
  have HKK := Lib.hid hkk
  have hkn : kk ≤ n9 := by omega
  have hw9 : RowKit.wrap64 ((n9 : Int) + 1) = (n9 : Int) + 1 := by unfold RowKit.wrap64; omega
  clear hkk hkl
  go_upto_region 11 with (go_at_call 12; (with_reducible refine (around1_c cut ((n9 : Int) + 1) _ HB.out.1.1 HB.out.1.2 (by omega) (by omega)).mono ?_); rintro e w' ⟨rfl, hw⟩; rw [HKK.out, ← hw]; clear hw)
  obtain ⟨ab, hab, hdr⟩ := Nums.dropI r9 n9 c9 kk
  have HDR := Lib.hid hdr
  clear hdr
  go_wp2_with fail
  go_loopw [18] (fun t18 wr => ∃ i : Nat, t18 = .int .i64 (5 + i) ∧ i ≤ 2 ∧ Room w wr [DiskT g (2 * i) (stB (al.take kk) (al.drop kk) i), NumsT .i64 Aa na ca a, NumsT .i64 Ab nb cb b, NumsT .u8 (some ⟨r9, 0, none⟩) n9 c9 al]) (fun t18 _ => 7 - (intOf t18).toNat)
  case atStart => exact ⟨0, rfl, by decide, hR9⟩
  case round =>
    clear hR9
    obtain ⟨i, rfl, hi, hR⟩ := hrel
    by_cases hlt : i < 2
    · have dlt : decide ((5 : Int) + (i : Int) < 7) = true := by simp; omega
      have hkc : (kk : Int) ≤ (c9 : Int) := by omega
      have hk0 : (0 : Int) ≤ (kk : Int) := by omega
      have hfil : -9223372036854775808 ≤ (5 : Int) + (i : Int) ∧ (5 : Int) + (i : Int) ≤ 9223372036854775807 := by omega
      have HFL := Lib.hid (And.intro hfil (show 2 * i < 1000000 ∧ 2 * i + 1 < 1000000 by omega))
      clear hfil
      go_upto_region 15 with (go_at_call 14; refine (hR.appendT 0 rfl 3 (by decide) rfl (5 + i) (some ⟨r9, 0, none⟩) kk c9 (al.take kk) HFL.out.1.1 HFL.out.1.2 (fun h => h.takeB kk hkn) (fun h => ⟨by omega, rfl⟩) HFL.out.2.1).mono ?_; rintro e w10 ⟨rfl, hR10⟩)
      have hR10' : Room w w10 [DiskT g (2 * i + 1) (appR (stB (al.take kk) (al.drop kk) i) (5 + i) (al.take kk)).2, NumsT .i64 Aa na ca a, NumsT .i64 Ab nb cb b, NumsT .u8 (some ⟨r9, 0, none⟩) n9 c9 al] := hR10
      have hi1 : (5 : Int) + (i : Int) ≤ 6 := by omega
      have hi0 : (0 : Int) ≤ (i : Int) := by omega
      have HI1 := Lib.hid (show i + 1 ≤ 2 by omega)
      have HAP := Lib.hid (hR10'.appendT 0 rfl 3 (by decide) rfl (5 + i) (some ⟨r9, ab, none⟩) (n9 - kk) (c9 - kk) (al.drop kk) HFL.out.1.1 HFL.out.1.2 (HDR.out _ _ _ hkn) (fun h => ⟨by omega, rfl⟩) HFL.out.2.2)
      unfold ptrV at HAP
      clear hR hR10 hR10'
      go_wp2_with (go_at_call 14; (with_reducible refine HAP.out.mono ?_); rintro e w11 ⟨rfl, hR11⟩)
      exact ⟨⟨i + 1, by go_num, HI1.out, hR11⟩, by simp only [intOf]; omega⟩
    · obtain rfl : i = 2 := by omega
      have dlt : decide ((5 : Int) + ((2 : Nat) : Int) < 7) = false := by decide
      have HR9 := Lib.hid (hR.drop 3)
      have HPQ := Lib.hid (show al.take kk ++ al.drop kk = al from List.take_append_drop _ _)
      have HPL := Lib.hid (show (al.take kk).length + (al.drop kk).length ≤ 4000 by
        have h1 := congrArg List.length HPQ.out
        rw [List.length_append] at h1
        have h2 := HAL.out
        omega)
      obtain ⟨s4, hs4⟩ : ∃ s4, stB (al.take kk) (al.drop kk) 2 = s4 := ⟨_, rfl⟩
      have hlf := fun kp ok => bags_left HPL.out hs4.symm kp flip ok
      rw [HPQ.out] at hlf
      have HLF := Lib.hid hlf
      clear hR hlt hab hc9 hc963 hlf HPL HPQ hkn
      have hR9 : Room w wr [DiskT g 4 s4, NumsT .i64 Aa na ca a, NumsT .i64 Ab nb cb b] := by rw [← hs4]; exact HR9.out
      clear hs4 HR9
      go_upto_region 17 with (go_at_call 15; refine (hR9.sync 0 rfl).mono ?_; rintro e w10 ⟨rfl, hR10⟩)
      have hR10' := room2 hR10
      clear hR9 hR10
      go_upto_region 18 with (go_at_call 14; refine (hR10'.append 0 rfl ((E.refl w10).alloc (.cells #[.int .u8 9, .int .u8 9, .int .u8 9] 5)) 6 (some ⟨w10.heap.size, 0, none⟩) 3 3 [9, 9, 9] (by decide) (by decide) (newNums w10 .u8 5 [9, 9, 9] (by decide) (by decide)) (apartW.new _ _ _) (by decide)).mono ?_; rintro e w11 ⟨rfl, hR11⟩)
      have hR11' := room2 hR11
      clear hR10' hR11
      go_upto_region 19 with (go_at_call 14; refine (hR11'.append 0 rfl ((E.refl w11).alloc (.cells #[.int .u8 1] 5)) 8 (some ⟨w11.heap.size, 0, none⟩) 1 1 [1] (by decide) (by decide) (newNums w11 .u8 5 [1] (by decide) (by decide)) (apartW.new _ _ _) (by decide)).mono ?_; rintro e w12 ⟨rfl, hR12⟩)
      have hR12' := room2 hR12
      clear hR11' hR12
      obtain ⟨s7, hs7⟩ : ∃ s7, (appR (appR (syncR s4).2 6 [9, 9, 9]).2 8 [1]).2 = s7 := ⟨_, rfl⟩
      rw [hs7] at hR12' HLF
      have HR12 := Lib.hid hR12'
      clear hR12' hs7
      have HX12 := Lib.hid (HN2.out.e HR12.out.e_)
      go_upto_region 20 with (first
        | (go_at_call 26; refine (intsN_c 3 (by decide) A2 n2 c2 l2 w12 HX12.out).mono ?_; rintro e w13 ⟨A13, n13, c13, rfl, hO13, hE13⟩; have hR13 := HR12.out.own hE13 hO13)
        | (go_at_call 16; refine (hR13.crashT 0 rfl 3 (by decide) rfl A13 n13 c13 (l2.take 3) flip id (fun h => ⟨h, rfl⟩) HB.out.2.1 HB.out.2.2).mono ?_; rintro e w14 ⟨rfl, hR14⟩))
      have hR14' := room2 hR14
      obtain ⟨hb5, t6, hb6, ht6⟩ := HLF.out (l2.take 3) (HR12.out.ok 0 rfl)
      obtain ⟨s8, hs8⟩ : ∃ s8, crashS s7 (l2.take 3) flip = s8 := ⟨_, rfl⟩
      have hso : s8.off = false := by rw [← hs8]; rfl
      rw [hs8] at hR14' hb5 hb6
      have HB5 := Lib.hid hb5
      have HB6 := Lib.hid hb6
      have HT6 := Lib.hid ht6
      have HSO := Lib.hid hso
      clear hR13 hO13 hE13 hR14 hb5 hb6 ht6 hso hs8 HLF
      obtain ⟨sm, hsm⟩ : ∃ sm, addS a b = sm := ⟨_, rfl⟩
      have HSM := Lib.hid hsm
      clear hsm
      go_upto_region 21 with (go_at_call 37; refine (add_c Aa Ab na ca nb cb a b w14 (hR14'.nums 1 rfl) (hR14'.nums 2 rfl)).mono ?_; rintro e w15 ⟨A15, n15, c15, rfl, hO15, hE15⟩; rw [HSM.out] at hO15 ⊢)
      have hR15 := hR14'.own hE15 hO15
      have HR15 := Lib.hid hR15
      clear hR14' hO15 hE15 hR15
      go_wp2_with fail
      go_loopw [21] (fun t21 wr => ∃ i : Nat, t21 = .int .i64 (5 + i) ∧ i ≤ 2 ∧ E w15 wr) (fun t21 _ => 7 - (intOf t21).toNat)
      case atStart => exact ⟨0, rfl, by decide, E.refl _⟩
      case round =>
        obtain ⟨i, rfl, hi, hE⟩ := hrel
        by_cases hlt : i < 2
        · have dlt : decide ((5 : Int) + (i : Int) < 7) = true := by simp; omega
          have hif : isF ((5 : Int) + (i : Int)) = true := isF_iff.2 ⟨by omega, by omega⟩
          obtain ⟨tt, hbt, ht0, ht3⟩ : ∃ tt, s8.b (5 + (i : Int)) = al ++ tt ∧ (i = 0 → tt = []) ∧ tt.length ≤ 3 := by
            rcases (show i = 0 ∨ i = 1 by omega) with rfl | rfl
            · exact ⟨[], by rw [List.append_nil]; exact HB5.out, fun _ => rfl, by simp⟩
            · exact ⟨t6, HB6.out, fun h => absurd h (by decide), HT6.out⟩
          have rd : readR s8 (5 + (i : Int)) = (al ++ tt, 0) := by unfold readR; rw [if_neg (by rw [hif]; decide), if_neg (by rw [HSO.out]; decide), hbt]
          have HFI := Lib.hid (show -9223372036854775808 ≤ (5 : Int) + (i : Int) ∧ (5 : Int) + (i : Int) ≤ 9223372036854775807 by omega)
          have HT0 := Lib.hid ht0
          have HL := Lib.hid hlt
          have HAT := Lib.hid (show (al ++ tt).length ≤ 1099511627776 by have := HAL.out; rw [List.length_append]; omega)
          have HSP := Lib.hid (show al ++ tt = uv ea.length ++ ea ++ (uv eb.length ++ eb ++ tt) by rw [← HALE.out]; simp only [List.append_assoc])
          have hRr := HR15.out.e hE
          clear hbt ht0 ht3 hif
          go_upto_region 25 with (go_at_call 17; refine (hRr.read 0 rfl (5 + (i : Int)) HFI.out.1 HFI.out.2).mono ?_; rintro e w20 ⟨⟨A20, n20, c20, rfl, hO20, hE20⟩, hR20⟩; simp only [rd] at hO20 ⊢)
          have HE20 := Lib.hid (hE.trans hE20)
          clear rd hRr hE20 hR20
          go_upto_region 26 with (go_at_call 38; refine (read_c A20 n20 c20 (al ++ tt) w20 hO20.reads (by rw [← hO20.1]; exact HAT.out)).mono ?_; rintro e w21 ⟨gr, rfl, hRd, hgr, hE21⟩)
          rw [HSP.out] at hRd
          have HRd := Lib.hid hRd
          have HGR := Lib.hid (show w15.heap.size ≤ gr by have := HE20.out.le; omega)
          have HE21 := Lib.hid (HE20.out.trans hE21)
          clear hO20 hRd hgr hE21 HAT HSP
          go_upto_region 28 with fail
          go_upto_region 29 with (first
            | (go_at_call 40; refine (rRaw_c gr ea (uv eb.length ++ eb ++ tt) w21 HRd.out (by have := HEA.out.1; omega)).mono ?_; rintro e w22 ⟨A22, n22, c22, rfl, hO22, hR22, hG22⟩)
            | (go_at_call 39; refine (decode_c A22 n22 c22 ea w22 hO22.reads (by rw [← hO22.1]; have := HEA.out.1; omega)).mono ?_; rintro e w23 ⟨A23, n23, c23, rfl, hO23, hE23⟩; simp only [HEA.out.2] at hO23 ⊢))
          have HE22 := Lib.hid (HE21.out.grown hG22 (fun k hk => by injection hk with hk; have := HGR.out; omega))
          have HE23 := Lib.hid (HE22.out.trans hE23)
          have HRd23 := Lib.hid (hR22.belowX hE23 hR22.ltX)
          have HO23 := Lib.hid hO23
          have HNG := Lib.hid (show ob A23 ≠ some gr from fun e => by have h1 := (hO23.ltN gr e).1; have := hR22.ltX; omega)
          clear hO22 hR22 hG22 hO23 hE23
          go_upto_region 30 with (first
            | (go_at_call 40; refine (rRaw_c gr eb tt w23 HRd23.out (by have := HEB.out.1; omega)).mono ?_; rintro e w24 ⟨A24, n24, c24, rfl, hO24, hR24, hG24⟩)
            | (go_at_call 39; refine (decode_c A24 n24 c24 eb w24 hO24.reads (by rw [← hO24.1]; have := HEB.out.1; omega)).mono ?_; rintro e w25 ⟨A25, n25, c25, rfl, hO25, hE25⟩; simp only [HEB.out.2] at hO25 ⊢))
          have HE24 := Lib.hid (HE23.out.grown hG24 (fun k hk => by injection hk with hk; have := HGR.out; omega))
          have HE25 := Lib.hid (HE24.out.trans hE25)
          have HRd25 := Lib.hid (hR24.belowX hE25 hR24.ltX)
          have HNa := Lib.hid (((HO23.out.reads).grown9 hG24 (fun _ => HNG.out)).e hE25)
          have HNb := Lib.hid hO25.reads
          clear hO24 hR24 hG24 hO25 hE25
          go_upto_region 31 with (go_at_call 37; refine (add_c A23 A25 n23 c23 n25 c25 a b w25 HNa.out HNb.out).mono ?_; rintro e w26 ⟨A26, n26, c26, rfl, hO26, hE26⟩; simp only [HSM.out] at hO26 ⊢)
          have HE26 := Lib.hid (HE25.out.trans hE26)
          have HRd26 := Lib.hid (HRd25.out.belowX hE26 HRd25.out.ltX)
          have HR26 := Lib.hid (HR15.out.e HE26.out)
          have HC1 := Lib.hid (fun wn (hEn : E w26 wn) => (sameInts_e A23 Aa n23 c23 na ca a a wn ((HNa.out.e hE26).e hEn) ((HR26.out.nums 1 rfl).e hEn)).mono fun e wm h => show e = .returned (.bool true) ∧ E w26 wm from ⟨h.1.trans (by rw [show sameB a a = true by simp [sameB]]), hEn.trans h.2⟩)
          have HC2 := Lib.hid (fun wn (hEn : E w26 wn) => (sameInts_e A25 Ab n25 c25 nb cb b b wn ((HNb.out.e hE26).e hEn) ((HR26.out.nums 2 rfl).e hEn)).mono fun e wm h => show e = .returned (.bool true) ∧ E w26 wm from ⟨h.1.trans (by rw [show sameB b b = true by simp [sameB]]), hEn.trans h.2⟩)
          have HC3 := Lib.hid (fun wn (hEn : E w26 wn) => (sameInts_e A26 A15 n26 c26 n15 c15 sm.1 sm.1 wn (hO26.reads.e hEn) ((HR26.out.nums 4 rfl).e hEn)).mono fun e wm h => show e = .returned (.bool true) ∧ E w26 wm from ⟨h.1.trans (by rw [show sameB sm.1 sm.1 = true by simp [sameB]]), hEn.trans h.2⟩)
          clear hO26 hE26
          have hi01 : i = 0 ∨ i = 1 := by have := HL.out; omega
          rcases hi01 with hi0 | hi0
          · subst hi0
            have hte := HT0.out rfl
            have HEND := Lib.hid (fun wn (hEn : E w26 wn) => (rEnd_c gr [] 0 wn (by have := HRd26.out.belowX hEn HRd26.out.ltX; rw [hte] at this; exact this)).mono fun e wm h => show e = .returned (.int .i64 0) ∧ E w26 wm from ⟨h.1, by rw [← h.2]; exact hEn⟩)
            clear hte
            have hEa := E.refl w26
            go_wp2_with (first
              | (go_at_call 41; (first | (with_reducible refine (HC1.out _ hEa).mono ?_) | (with_reducible refine (HC2.out _ hEa).mono ?_) | (with_reducible refine (HC3.out _ hEa).mono ?_)); rintro e wa ⟨rfl, hEb⟩; replace hEa := hEb; clear hEb)
              | (go_at_call 42; refine (HEND.out _ hEa).mono ?_; rintro e wa ⟨rfl, hEb⟩; replace hEa := hEb; clear hEb))
            exact ⟨⟨0 + 1, by go_num, by omega, HE26.out.trans hEa⟩, by simp only [intOf]; omega⟩
          · subst hi0
            have hEa := E.refl w26
            go_wp2_with (first
              | (go_at_call 41; (first | (with_reducible refine (HC1.out _ hEa).mono ?_) | (with_reducible refine (HC2.out _ hEa).mono ?_) | (with_reducible refine (HC3.out _ hEa).mono ?_)); rintro e wa ⟨rfl, hEb⟩; replace hEa := hEb; clear hEb)
              | (go_at_call 42; fail))
            exact ⟨⟨1 + 1, by go_num, by omega, HE26.out.trans hEa⟩, by simp only [intOf]; omega⟩
        · obtain rfl : i = 2 := by omega
          have dlt : decide ((5 : Int) + ((2 : Nat) : Int) < 7) = false := by decide
          clear hlt
          go_wp2_with (go_at_call 19; refine (lives_c _).mono ?_; rintro e w17 ⟨rfl, hE17⟩)
          go_ret
          exact ⟨rfl, HR15.out.e_.trans (hE.trans hE17)⟩
end Go.Proofs.Ythcicfolabngcaa
