/- Lemmas of the claim, joined: LawDA. No condition. -/
import Derived.Test.YthcicfolabngcaaGC
/- DiskArguments returns true. -/
namespace Go.Proofs.Ythcicfolabngcaa
open Go.RowKit

theorem appR_new {room : Int} (i : Int) (l : List Int) : appR (newS room) i l = if isF i = false then (1, newS room) else if room < l.length then (22, newS room) else (0, appS (newS room) i l) := by
  have hs : stepS (newS room) = newS room := rfl
  unfold appR
  split
  · rfl
  · rw [if_neg (by simp [newS]), hs]
    have : room - (usedF (newS room).b : Nat) = room := by rw [show (newS room).b = fun _ => [] from rfl, usedF_nil]; omega
    rw [show (newS room).room = room from rfl, this]
    rfl
theorem used_app {room : Int} {i : Int} (l : List Int) (hi : isF i = true) : usedF (appS (newS room) i l).b = l.length := by
  have := usedF_upd (newS room).b ((newS room).b i ++ l) hi
  rw [show (newS room).b = fun _ => [] from rfl, usedF_nil] at this
  simp at this
  exact this
theorem used_new (room : Int) : usedF (newS room).b = 0 := usedF_nil
theorem room_no {w0 w : World} {room : Int} (hE : E w0 w) (h1 : -9223372036854775808 ≤ room) (h2 : room ≤ 9223372036854775807) (h : ¬ (0 ≤ room ∧ room ≤ 16777216)) :
    Calls Try.prog 11 #[.int .i64 room] w (fun e w' => e = .returned (.tuple #[.pointer none, .int .i64 1]) ∧ E w0 w') := by
  refine (new_c room w h1 h2).mono ?_
  rintro e w' ⟨hE', hr⟩
  rw [if_neg h] at hr
  exact ⟨hr, hE.trans hE'⟩
theorem sameB_self (l : List Int) : sameB l l = true := by simp [sameB]
set_option maxHeartbeats 4000000 in
set_option maxRecDepth 100000 in
theorem diskArguments_w (room file size : Int) (A : Option Addr) (n c : Nat) (l : List Int) (w : World) (hN : Nums .u8 w A n c l)
    (r1 : -9223372036854775808 ≤ room) (r2 : room ≤ 9223372036854775807) (f1 : -9223372036854775808 ≤ file) (f2 : file ≤ 9223372036854775807) (s1 : -9223372036854775808 ≤ size) (s2 : size ≤ 9223372036854775807) :
    Calls Try.prog 4 #[.int .i64 room, .int .i64 file, .int .i64 size, .slice A n c] w (RetK w true) := by
  have HB := Lib.hid (And.intro f1 (And.intro f2 (And.intro s1 s2)))
  have HR := Lib.hid (And.intro r1 r2)
  clear f1 f2 s1 s2 r1 r2
  by_cases hv : 0 ≤ room ∧ room ≤ 16777216
  · have d0 : decide (room < 0) = false := by simp; omega
    have d1 : decide (16777216 < room) = false := by simp; omega
    have HV := Lib.hid hv
    clear hv
    go_enter Try.func4, Try.ntmps4
    go_upto_region 6 with (go_at_call 11; refine (room_new (Room.nil w) room HV.out.1 HV.out.2).mono ?_; rintro e w1 ⟨g, rfl, hR, hE1⟩)
    rw [List.nil_append] at hR
    have hN1 := hN.e hE1
    go_upto_region 7 with (go_at_call 13; refine (fewN_c 60 (by decide) _ _ _ _ _ hN1).mono ?_; rintro e w2 ⟨A2, n2, c2, rfl, hO2, hE2⟩)
    have hR2 : Room w w2 [DiskT g 0 (newS room), NumsT .u8 A2 n2 c2 (l.take 60)] := hR.own hE2 hO2
    have hln : (l.take 60).length ≤ 60 := by rw [List.length_take]; omega
    have HLN := Lib.hid hO2.1
    generalize l.take 60 = own at *
    clear hR hN1 hO2 hE2 hE1 hN
    go_upto_region 8 with (go_at_call 14; refine (hR2.appendT 0 rfl 1 (by decide) rfl file _ _ _ own HB.out.1 HB.out.2.1 id (fun h => ⟨h, rfl⟩) (by decide)).mono ?_; rintro e w3 ⟨rfl, hR3⟩)
    have hR3' : Room w w3 [DiskT g 1 (appR (newS room) file own).2, NumsT .u8 A2 n2 c2 own] := hR3
    clear hR2 hR3
    have h60 : n2 ≤ 60 := by rw [← HLN.out]; exact hln
    cases hi : isF file with
    | false =>
      have hap : appR (newS room) file own = (1, newS room) := by rw [appR_new, if_pos hi]
      rw [hap] at hR3' ⊢
      have hrd : readR (newS room) file = ([], 1) := by unfold readR; rw [if_pos hi]
      have htr : truncR (newS room) file 0 = (1, newS room) := by unfold truncR; rw [if_pos (.inl hi)]
      have hu := used_new room
      have HI := Lib.hid hi
      go_upto_region 9 with (go_at_call 17; refine (hR3'.read 0 rfl file HB.out.1 HB.out.2.1).mono ?_; rintro e w4 ⟨⟨A4, n4, c4, rfl, hO4, hE4⟩, hR4⟩; simp only [hrd] at hO4 ⊢)
      have hn4 : n4 = 0 := hO4.1.symm
      subst hn4
      clear hO4 hE4 hR3'
      by_cases h0 : file < 0
      · have d2 : decide (file < 0) = true := by simpa using h0
        clear h0 hi
        go_wp2_with (first
          | (go_at_call 20; refine (hR4.trunc 0 rfl file 0 HB.out.1 HB.out.2.1).mono ?_; rintro e w5 ⟨rfl, hR5⟩; simp only [htr] at hR5 ⊢)
          | (go_at_call 21; refine (hR5.used (g := g) (k := 1) (s := newS room) 0 rfl).mono ?_; rintro e w6 ⟨rfl, rfl⟩; simp only [hu])
          | (go_at_call 19; refine (lives_c _).mono ?_; rintro e w7 ⟨rfl, hE7⟩))
        go_ret
        exact ⟨rfl, hR5.e_.trans hE7⟩
      · have d2 : decide (file < 0) = false := by simpa using h0
        have d3 : decide (63 < file) = true := by
          have := isF_iff (i := file)
          rw [hi] at this
          simp at this
          simp; omega
        clear h0 hi
        go_wp2_with (first
          | (go_at_call 20; refine (hR4.trunc 0 rfl file 0 HB.out.1 HB.out.2.1).mono ?_; rintro e w5 ⟨rfl, hR5⟩; simp only [htr] at hR5 ⊢)
          | (go_at_call 21; refine (hR5.used (g := g) (k := 1) (s := newS room) 0 rfl).mono ?_; rintro e w6 ⟨rfl, rfl⟩; simp only [hu])
          | (go_at_call 19; refine (lives_c _).mono ?_; rintro e w7 ⟨rfl, hE7⟩))
        go_ret
        exact ⟨rfl, hR5.e_.trans hE7⟩
    | true =>
      have h63 := isF_iff.1 hi
      have d2 : decide (file < 0) = false := by simp; omega
      have d3 : decide (63 < file) = false := by simp; omega
      clear h63
      by_cases hf : room < own.length
      · have hap : appR (newS room) file own = (22, newS room) := by rw [appR_new, if_neg (by rw [hi]; decide), if_pos hf]
        rw [hap] at hR3' ⊢
        have hrd : readR (newS room) file = ([], 0) := by unfold readR; rw [if_neg (by rw [hi]; decide)]; rfl
        have hu := used_new room
        have d4 : decide (room < (n2 : Int)) = true := by rw [← HLN.out]; simpa using hf
        have HF := Lib.hid hf
        clear hf hi
        go_upto_region 9 with (go_at_call 17; refine (hR3'.read 0 rfl file HB.out.1 HB.out.2.1).mono ?_; rintro e w4 ⟨⟨A4, n4, c4, rfl, hO4, hE4⟩, hR4⟩; simp only [hrd] at hO4 ⊢)
        have hn4 : n4 = 0 := hO4.1.symm
        subst hn4
        clear hO4 hE4 hR3'
        go_wp2_with (first
          | (go_at_call 21; refine (hR4.used (g := g) (k := 1) (s := newS room) 0 rfl).mono ?_; rintro e w6 ⟨rfl, rfl⟩; simp only [hu])
          | (go_at_call 19; refine (lives_c _).mono ?_; rintro e w7 ⟨rfl, hE7⟩))
        go_ret
        exact ⟨rfl, hR4.e_.trans hE7⟩
      · have hap : appR (newS room) file own = (0, appS (newS room) file own) := by rw [appR_new, if_neg (by rw [hi]; decide), if_neg hf]
        rw [hap] at hR3' ⊢
        have hb : (appS (newS room) file own).b file = own := by simp [appS, newS, upd_same]
        have hrd : readR (appS (newS room) file own) file = (own, 0) := by unfold readR; rw [if_neg (by rw [hi]; decide), if_neg (by simp [appS, newS]), hb]
        have hu := used_app (room := room) own hi
        have d4 : decide (room < (n2 : Int)) = false := by rw [← HLN.out]; simpa using hf
        have HI := Lib.hid hi
        have HBF := Lib.hid hb
        clear hf hi hb
        go_upto_region 9 with (go_at_call 17; refine (hR3'.read 0 rfl file HB.out.1 HB.out.2.1).mono ?_; rintro e w4 ⟨⟨A4, n4, c4, rfl, hO4, hE4⟩, hR4⟩; simp only [hrd] at hO4 ⊢)
        have hnO := hR4.nums 1 rfl
        have hn4 := hO4.reads
        clear hE4 hR3' hO4
        have hC := Lib.hid ((sameBytes_c _ _ _ _ _ _ own own w4 hn4 hnO).mono fun e wn h => show RetK w4 true e wn from ⟨h.1.trans (by rw [sameB_self]), by obtain ⟨m, hm⟩ := h.2; rw [hm]; exact (E.refl w4).drewN m⟩)
        clear hn4
        go_upto_region 15 with (go_at_call 18; (with_reducible refine hC.out.mono ?_); rintro e w5 ⟨rfl, hE5⟩)
        have hR5 := hR4.e hE5
        clear hR4 hE5 hC hnO
        by_cases hz : size < 0 ∨ own.length < size
        · have htr : truncR (appS (newS room) file own) file size = (1, appS (newS room) file own) := by unfold truncR; rw [if_pos]; right; rw [HBF.out]; exact hz
          by_cases h0 : size < 0
          · have d5 : decide (size < 0) = true := by simpa using h0
            clear h0 hz
            go_wp2_with (first
              | (go_at_call 20; refine (hR5.trunc 0 rfl file size HB.out.1 HB.out.2.1).mono ?_; rintro e w6 ⟨rfl, hR6⟩; simp only [htr] at hR6 ⊢)
              | (go_at_call 21; refine (hR6.used (g := g) (k := 1) (s := appS (newS room) file own) 0 rfl).mono ?_; rintro e w7 ⟨rfl, rfl⟩; simp only [hu, HLN.out])
              | (go_at_call 19; refine (lives_c _).mono ?_; rintro e w8 ⟨rfl, hE8⟩))
            go_ret
            exact ⟨rfl, hR6.e_.trans hE8⟩
          · have d5 : decide (size < 0) = false := by simpa using h0
            have d6 : decide ((n2 : Int) < size) = true := by
              rw [← HLN.out]; simp; omega
            clear h0 hz
            go_wp2_with (first
              | (go_at_call 20; refine (hR5.trunc 0 rfl file size HB.out.1 HB.out.2.1).mono ?_; rintro e w6 ⟨rfl, hR6⟩; simp only [htr] at hR6 ⊢)
              | (go_at_call 21; refine (hR6.used (g := g) (k := 1) (s := appS (newS room) file own) 0 rfl).mono ?_; rintro e w7 ⟨rfl, rfl⟩; simp only [hu, HLN.out])
              | (go_at_call 19; refine (lives_c _).mono ?_; rintro e w8 ⟨rfl, hE8⟩))
            go_ret
            exact ⟨rfl, hR6.e_.trans hE8⟩
        · have hz2 : ¬ (isF file = false ∨ size < 0 ∨ ((appS (newS room) file own).b file).length < size) := by
            rw [HI.out, HBF.out]; rintro (h | h)
            · cases h
            · exact hz h
          obtain ⟨s3, hs3⟩ : ∃ s3, cutS (appS (newS room) file own) file size.toNat = s3 := ⟨_, rfl⟩
          have htr : truncR (appS (newS room) file own) file size = (0, s3) := by
            unfold truncR; rw [if_neg hz2, ← hs3]; rfl
          have hrd2 : readR s3 file = (own.take size.toNat, 0) := by
            unfold readR
            rw [if_neg (by rw [HI.out]; decide), ← hs3, if_neg (by simp [cutS, appS, newS])]
            simp only [cutS, upd_same, HBF.out]
          have d5 : decide (size < 0) = false := by simp; omega
          have d6 : decide ((n2 : Int) < size) = false := by
            rw [← HLN.out]; simp; omega
          obtain ⟨m, rfl⟩ : ∃ m : Nat, size = m := ⟨size.toNat, by omega⟩
          rw [Int.toNat_natCast] at hrd2 hs3
          have hm2 : m ≤ n2 := by rw [← HLN.out]; omega
          clear hs3 hz hz2
          go_upto_region 16 with (go_at_call 20; refine (hR5.trunc 0 rfl file m HB.out.1 HB.out.2.1).mono ?_; rintro e w6 ⟨rfl, hR6⟩; simp only [htr] at hR6 ⊢)
          have hR6' : Room w w6 [DiskT g 1 s3, NumsT .u8 A2 n2 c2 own] := hR6
          clear hR5 hR6
          go_upto_region 19 with (go_at_call 17; refine (hR6'.read 0 rfl file HB.out.1 HB.out.2.1).mono ?_; rintro e w7 ⟨⟨A7, n7, c7, rfl, hO7, hE7⟩, hR7⟩; simp only [hrd2] at hO7 ⊢)
          have hn2 := hR7.nums 1 rfl
          have hc2 := hn2.cap
          have hc63 := hn2.c63
          have hn7 := hO7.reads
          have HC := Lib.hid ((sameBytes_c _ _ _ _ _ _ (own.take m) (own.take m) w7 hn7 (hn2.takeB m hm2)).mono fun e wn h => show RetK w7 true e wn from ⟨h.1.trans (by rw [sameB_self]), by obtain ⟨m, hm⟩ := h.2; rw [hm]; exact (E.refl w7).drewN m⟩)
          have HE7 := Lib.hid hR7.e_
          have hmI : (m : Int) ≤ (c2 : Int) := by omega
          have hm0 : (0 : Int) ≤ (m : Int) := by omega
          clear hR6' hO7 hE7 hR7 hn2 hn7
          go_wp2_with (first
            | (go_at_call 18; (with_reducible refine HC.out.mono ?_); rintro e w8 ⟨rfl, hE8⟩)
            | (go_at_call 19; refine (lives_c _).mono ?_; rintro e w9 ⟨rfl, hE9⟩))
          go_ret
          exact ⟨rfl, HE7.out.trans (hE8.trans hE9)⟩
  · have hx : (decide (room < 0) || decide (16777216 < room)) = true := by simp; omega
    by_cases h0 : room < 0
    · have d0 : decide (room < 0) = true := by simp; omega
      go_enter Try.func4, Try.ntmps4
      go_wp2_with (first
        | (go_at_call 11; refine (room_no (E.refl w) HR.out.1 HR.out.2 hv).mono ?_; rintro e w1 ⟨rfl, hE1⟩)
        | (go_at_call 19; refine (lives_c _).mono ?_; rintro e w2 ⟨rfl, hE2⟩))
      go_ret
      exact ⟨rfl, hE1.trans hE2⟩
    · have d0 : decide (room < 0) = false := by simp; omega
      have d1 : decide (16777216 < room) = true := by simp; omega
      go_enter Try.func4, Try.ntmps4
      go_wp2_with (first
        | (go_at_call 11; refine (room_no (E.refl w) HR.out.1 HR.out.2 hv).mono ?_; rintro e w1 ⟨rfl, hE1⟩)
        | (go_at_call 19; refine (lives_c _).mono ?_; rintro e w2 ⟨rfl, hE2⟩))
      go_ret
      exact ⟨rfl, hE1.trans hE2⟩
end Go.Proofs.Ythcicfolabngcaa
