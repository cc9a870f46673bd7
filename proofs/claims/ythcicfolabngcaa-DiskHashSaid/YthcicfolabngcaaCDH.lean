/- Lemmas of the claim, joined: LawDH. No condition. -/
import Derived.Test.YthcicfolabngcaaCDX
import Derived.Test.YthcicfolabngcaaGE
/- DiskHash returns true. -/
namespace Go.Proofs.Ythcicfolabngcaa
open Go.RowKit

theorem LeftS.same {all y : List Int} {firm n : Nat} {inv : Bool} (h : LeftS all firm n inv y) (hn : n = all.length) (hw : ∀ x ∈ all, (Lit.int .u8 x).wf = true) : (y = all ↔ inv = false) ∧ ∀ x ∈ y, (Lit.int .u8 x).wf = true := by
  subst hn
  unfold LeftS at h
  split at h
  · rename_i hi
    obtain ⟨pos, p, v, hp, _, hpn, hv, rfl⟩ := h
    have hvw := hw v (List.mem_of_getElem? hv)
    refine ⟨⟨fun e => ?_, fun e => (by rw [hi] at e; cases e)⟩, fun x hx => ?_⟩
    · have h1 : ((all.take all.length).set pos (flipB v p))[pos]? = some (flipB v p) := List.getElem?_set_self (by rw [List.length_take]; omega)
      rw [e, hv] at h1
      injection h1 with h1
      have h2 := xor_flip hvw hp
      rw [← h1, xor_same hvw] at h2
      have := Nat.pow_pos (n := 7 - p) (show 0 < 2 by decide)
      omega
    · rcases List.mem_or_eq_of_mem_set hx with h1 | h1
      · exact hw x (List.mem_of_mem_take h1)
      · rw [h1]; exact flip_wf hvw hp
  · rename_i hi
    rw [h, List.take_length]
    exact ⟨⟨fun _ => by simpa using hi, fun _ => rfl⟩, hw⟩
set_option maxHeartbeats 4000000 in
set_option maxRecDepth 100000 in
theorem diskHash_w (flip : Int) (synced : Bool) (A : Option Addr) (n c : Nat) (l : List Int) (w : World) (hN : Nums .u8 w A n c l)
    (s1 : -9223372036854775808 ≤ flip) (s2 : flip ≤ 9223372036854775807) :
    Calls Try.prog 9 #[.slice A n c, .int .i64 flip, .bool synced] w (RetK w true) := by
  have HB := Lib.hid (And.intro s1 s2)
  clear s1 s2
  go_enter Try.func9, Try.ntmps9
  go_upto_region 4 with (go_at_call 11; refine (room_new (Room.nil w) 100 (by decide) (by decide)).mono ?_; rintro e w1 ⟨g, rfl, hR, hE1⟩)
  have hR1 : Room w w1 [DiskT g 0 (newS 100)] := hR
  have HN1 := Lib.hid (hN.e hE1)
  clear hR hE1 hN
  go_upto_region 5 with (first
    | (go_at_call 13; refine (fewN_c 7 (by decide) _ _ _ _ _ HN1.out).mono ?_; rintro e w2 ⟨A2, n2, c2, rfl, hO2, hE2⟩; have hR2 := (hR1.newRow hE2 hO2).e ((E.refl w2).alloc (.cells #[.int .u8 1] 5)); have HL2 := Lib.hid (show n2 ≤ 7 by rw [← hO2.1, List.length_take]; omega); have HT := Lib.hid (show n2 + 1 ≤ 1099511627776 by have := HL2.out; omega))
    | (at_builtin; refine wpList_appF byteT (w2.alloc (.cells #[.int .u8 1] 5)) rfl _ _ rfl A2 n2 c2 _ rfl (hR2.ownAt 1 rfl) (some ⟨w2.heap.size, 0, none⟩) 1 1 [1] rfl (newNums w2 .u8 5 [1] (by decide) (by decide)) HT.out ?_; intro A3 c3 w3 hO3 hG3 hb3))
  have hR3 : Room w w3 [DiskT g 0 (newS 100), NumsT .u8 A3 (n2 + 1) c3 (l.take 7 ++ [1])] := (hR2.appOwn 1 rfl hO3 hG3 hb3).reads 1 rfl
  have hl := hO3.1
  generalize l.take 7 ++ [1] = own at *
  clear hO2 hE2 hR1 hR2 hO3 hG3 hb3
  have hAP := (OneS.zero 0 100).app (by decide) own (by rw [hl]; have := HL2.out; simp only [List.length_nil]; omega)
  rw [List.nil_append] at hAP
  go_upto_region 6 with (go_at_call 14; refine (hR3.appendT 0 rfl 1 (by decide) rfl 0 _ _ _ own (by decide) (by decide) id (fun h => ⟨h, rfl⟩) (by decide)).mono ?_; rintro e w4 ⟨rfl, hR4⟩)
  obtain ⟨s4, hs4⟩ : ∃ s4, (appR (newS 100) 0 own).2 = s4 := ⟨_, rfl⟩
  rw [hs4] at hAP hR4
  have hS4 := hAP.2
  have hR4' : Room w w4 [DiskT g 1 s4, NumsT .u8 A3 (n2 + 1) c3 own] := hR4
  clear hAP hs4 hR3 hR4
  go_upto_if 29 with fail
  go_cut [] (fun wx => ∃ s firm, OneS 0 100 own firm s ∧ (firm = if synced = true then own.length else 0) ∧ Room w wx [DiskT g 1 s, NumsT .u8 A3 (n2 + 1) c3 own])
  case first =>
    cases synced with
    | true =>
      go_wp2_with (go_at_call 15; refine (hR4'.sync 0 rfl).mono ?_; rintro e w5 ⟨rfl, hR5⟩)
      go_meet
      exact ⟨_, _, hS4.sync, rfl, hR5⟩
    | false =>
      go_wp2_with fail
      go_meet
      exact ⟨_, _, hS4, rfl, hR4'⟩
  case rest =>
    obtain ⟨s, firm, hS, hfirm, hR5⟩ := hcut
    clear hS4 hR4'
    have hwf := (hR5.nums 1 rfl).wf
    obtain ⟨nn, hnn, hfn, hna, hoff, hLe⟩ := hS.crash (hR5.ok 0 rfl) 8 flip
    have hn8 : nn = own.length := by
      have := HL2.out
      cases synced with
      | true => simp at hfirm; omega
      | false => simp at hfirm; omega
    have hinv : decide (0 ≤ flip ∧ firm < nn) = !(synced || decide (flip < 0)) := by
      cases synced with
      | true => simp at hfirm; simp; omega
      | false =>
        simp at hfirm
        by_cases h0 : flip < 0
        · simp [h0]; omega
        · simp [h0]; omega
    obtain ⟨s9, hs9⟩ : ∃ s9, crashS s [8] flip = s9 := ⟨_, rfl⟩
    rw [hinv, hs9] at hLe
    rw [hs9] at hoff
    have hlx := hLe.len hna
    obtain ⟨hsame, hwx⟩ := hLe.same hn8 hwf
    have hrd : readR s9 0 = (s9.b 0, 0) := by unfold readR; rw [if_neg (by decide), if_neg (by rw [hoff]; decide)]
    have HQ := Lib.hid (show bytesS { data := #[102] } (s9.b 0) = bytesS { data := #[102] } own ↔ (synced || decide (flip < 0)) = true from ⟨fun e => by
      have := hsame.1 (bytesS_inj hwx hwf (by rw [hlx]; omega) (by rw [hlx]; have := HL2.out; omega) (by rw [hlx, hn8]) e)
      rw [Bool.not_eq_false'] at this; exact this, fun e => by rw [hsame.2 (by rw [e]; rfl)]⟩)
    have HLX := Lib.hid (show (s9.b 0).length = n2 + 1 by rw [hlx, hn8, hl])
    have HS9 := Lib.hid hs9
    clear hS hfirm hwf hnn hfn hna hoff hLe hn8 hinv hs9 hlx hsame hwx
    generalize s9.b 0 = x at *
    go_upto_region 9 with (go_at_call 16; refine (hR5.crash 0 rfl ((E.refl _).alloc (.cells #[.int .i64 8] 3)) (some ⟨wc.heap.size, 0, none⟩) 1 1 [8] flip (newNums wc .i64 3 [8] (by decide) (by decide)) (apartW.new _ _ _) HB.out.1 HB.out.2).mono ?_; rintro e w6 ⟨rfl, hR6⟩)
    rw [HS9.out] at hR6
    have hR6' : Room w w6 [DiskT g 1 s9, NumsT .u8 A3 (n2 + 1) c3 own] := hR6
    clear hR5 hR6
    go_upto_region 10 with (go_at_call 17; refine (hR6'.read 0 rfl 0 (by decide) (by decide)).mono ?_; rintro e w7 ⟨⟨A7, n7, c7, rfl, hO7, hE7⟩, hR7⟩; simp only [hrd] at hO7 ⊢)
    have hn7 : n7 = n2 + 1 := by rw [← hO7.1]; exact HLX.out
    subst hn7
    have hX := hO7.reads
    have hY := hR7.nums 1 rfl
    have HE := Lib.hid hR7.e_
    have HL := Lib.hid (show n2 + 1 ≤ 1000000 by have := HL2.out; omega)
    clear hR6' hO7 hE7 hR7 hrd hl
    obtain ⟨hx, hhx⟩ : ∃ hx, bytesS { data := #[102] } x = hx := ⟨_, rfl⟩
    obtain ⟨ho, hho⟩ : ∃ ho, bytesS { data := #[102] } own = ho := ⟨_, rfl⟩
    have HX1 := Lib.hid (fun wn (hEn : E w7 wn) => show Calls Try.prog 32 #[.string { data := #[102] }, .slice A7 (n2 + 1) c7] wn fun e w' => e = .returned (.int .u64 hx) ∧ E w7 w' from (bytes_c _ (by decide) _ _ _ _ wn (hX.e hEn) HL.out).mono fun e w' h => ⟨by rw [h.1, hhx], hEn.trans h.2⟩)
    have HX2 := Lib.hid (fun wn (hEn : E w7 wn) => show Calls Try.prog 32 #[.string { data := #[102] }, .slice A3 (n2 + 1) c3] wn fun e w' => e = .returned (.int .u64 ho) ∧ E w7 w' from (bytes_c _ (by decide) _ _ _ _ wn (hY.e hEn) HL.out).mono fun e w' h => ⟨by rw [h.1, hho], hEn.trans h.2⟩)
    rw [hhx, hho] at HQ
    clear hhx hho hX hY
    have hE7 := E.refl w7
    by_cases hsy : (synced || decide (flip < 0)) = true
    · have := HQ.out.2 hsy
      subst this
      cases synced with
      | true =>
        clear hsy
        go_wp2_with (first
          | (go_at_call 32; (with_reducible refine (HX1.out _ hE7).mono ?_); rintro e wn ⟨rfl, hEn⟩; replace hE7 := hEn)
          | (go_at_call 32; (with_reducible refine (HX2.out _ hE7).mono ?_); rintro e wn ⟨rfl, hEn⟩; replace hE7 := hEn)
          | (go_at_call 19; refine (lives_c _).mono ?_; rintro e wn ⟨rfl, hEn⟩; replace hE7 := hE7.trans hEn))
        go_ret
        exact ⟨rfl, HE.out.trans hE7⟩
      | false =>
        have d0 : decide (flip < 0) = true := by simpa using hsy
        clear hsy
        go_wp2_with (first
          | (go_at_call 32; (with_reducible refine (HX1.out _ hE7).mono ?_); rintro e wn ⟨rfl, hEn⟩; replace hE7 := hEn)
          | (go_at_call 32; (with_reducible refine (HX2.out _ hE7).mono ?_); rintro e wn ⟨rfl, hEn⟩; replace hE7 := hEn)
          | (go_at_call 19; refine (lives_c _).mono ?_; rintro e wn ⟨rfl, hEn⟩; replace hE7 := hE7.trans hEn))
        go_ret
        exact ⟨rfl, HE.out.trans hE7⟩
    · have hne : ¬ hx = ho := fun e => hsy (HQ.out.1 e)
      have hsf : synced = false := by
        cases synced
        · rfl
        · exact absurd rfl hsy
      subst hsf
      have d0 : decide (flip < 0) = false := by simpa using hsy
      have dn : (hx == ho) = false := by simpa using hne
      clear hsy
      go_wp2_with (first
        | (go_at_call 32; (with_reducible refine (HX1.out _ hE7).mono ?_); rintro e wn ⟨rfl, hEn⟩; replace hE7 := hEn)
        | (go_at_call 32; (with_reducible refine (HX2.out _ hE7).mono ?_); rintro e wn ⟨rfl, hEn⟩; replace hE7 := hEn)
        | (go_at_call 19; refine (lives_c _).mono ?_; rintro e wn ⟨rfl, hEn⟩; replace hE7 := hE7.trans hEn))
      go_ret
      exact ⟨rfl, HE.out.trans hE7⟩
end Go.Proofs.Ythcicfolabngcaa
