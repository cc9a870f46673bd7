/- The walk of BagShares. -/
import Derived.Test.YtbpfdogjjoceaaaBSG
import Derived.Test.YtbpfdogjjoceaaaHD
import Derived.Test.YtbpfdogjjoceaaaS11
import Derived.Test.YtbpfdogjjoceaaaW
import Derived.Test.YtbpfdogjjoceaaaO
import Derived.Test.YtbpfdogjjoceaaaLawBytes
namespace Go.Proofs.Ytbpfdogjjoceaaa
open Go.RowKit

def shR (a ws : List Int) (i P : Nat) : Nat → Nat → Int := fun p q => if q < i ∨ (q = i ∧ p < P) then (splitL (a.getD q 0) ws).getD p 0 else 0
theorem shR_zero (a ws : List Int) : shR a ws 0 0 = fun _ _ => 0 := by funext p q; simp [shR]
theorem share_sum {a ws : List Int} {k j T q : Nat} (hq : q < k) (hj : ws.length = j) (hpre : SplitPre (a.getD q 0) ws) :
    (∀ p, 0 ≤ shR a ws k 0 p q) ∧ sm (fun r => shR a ws k 0 ((r + T) % j) q) j = a.getD q 0 := by
  have e : ∀ p, shR a ws k 0 p q = (splitL (a.getD q 0) ws).getD p 0 := fun p => by simp [shR, hq]
  refine ⟨fun p => ?_, ?_⟩
  · rw [e, List.getD_eq_getElem?_getD]
    cases hx : (splitL (a.getD q 0) ws)[p]? with
    | none => simp
    | some x => exact (splitL_range hpre x (List.mem_of_getElem? hx)).1
  · have hl : (splitL (a.getD q 0) ws).length = j := by rw [splitL_len, hj]
    have h := sm_turn (splitL (a.getD q 0) ws) T
    rw [splitL_sum hpre, hl] at h
    rw [← h]
    exact sm_congr fun r _ => e _
theorem shR_step (a ws : List Int) (i P : Nat) (v : Int) (hv : v = (splitL (a.getD i 0) ws).getD P 0) : (fun q jj => if q = P then (if jj = i then v else shR a ws i P P jj) else shR a ws i P q jj) = shR a ws i (P + 1) := by
  funext q jj
  subst hv
  unfold shR
  by_cases h1 : q = P
  · subst h1
    by_cases h2 : jj = i
    · subst h2; simp
    · simp [h2]
  · by_cases h2 : jj = i
    · subst h2
      have : (q < P ↔ q < P + 1) := by omega
      simp [h1, this]
    · simp [h1, h2]
set_option maxHeartbeats 4000000 in
set_option maxRecDepth 100000 in
theorem bagShares_w (N turn : Int) (A : Option Addr) (n c : Nat) (l : List Int) (Aw : Option Addr) (nw cw : Nat) (lw : List Int) (w : World) (h : Nums .i64 w A n c l) (hw : Nums .i64 w Aw nw cw lw) (hN1 : -9223372036854775808 ≤ N) (hN2 : N ≤ 9223372036854775807) (ht1 : -9223372036854775808 ≤ turn) (ht2 : turn ≤ 9223372036854775807) :
    Calls Try.prog 11 #[.int .i64 N, .slice A n c, .slice Aw nw cw, .int .i64 turn] w (RetB w true) := by
  obtain ⟨k, hk⟩ : ∃ k : Nat, 1 + N % 6 = k := ⟨(1 + N % 6).toNat, by omega⟩
  have hk1 : 1 ≤ k := by omega
  have hk6 : k ≤ 6 := by omega
  go_enter Try.func11, Try.ntmps11
  go_wp2_with fail
  refine (aroundR N 6 _ hN1 hN2 (by omega) (by omega)).mono ?_
  rintro e w' ⟨rfl, rfl⟩
  obtain ⟨r, hr⟩ : ∃ r : Int, N % 6 = r := ⟨_, rfl⟩
  rw [hr] at hk ⊢
  have hr0 : 0 ≤ r := by omega
  have hr5 : r ≤ 5 := by omega
  go_wp2_with fail
  refine (bag_c k 0 A n c l _ h (by omega) (by omega)).mono ?_
  rintro e w1 ⟨A1, n1, c1, rfl, hO1, hE1⟩
  have hn1 := hO1.1
  rw [bagL_len] at hn1
  subst hn1
  have hA := hO1.reads
  replace hw := hw.e hE1
  clear hO1
  go_wp2_with fail
  refine (refWeights_c Aw nw cw lw _ hw).mono ?_
  rintro e w2 ⟨A2, n2, c2, rfl, hO2, hE2⟩
  have hW := hO2.reads
  replace hA := hA.e hE2
  have hE := hE1.trans hE2
  have hn2 : n2 ≤ 7 := by have := hO2.1; have := weightsL_len lw; omega
  clear hO2 hE1 hE2 hw h
  go_wp2_with fail
  go_loopw [12, 13] (fun t12 ti wr => ∃ (j cc : Nat) (Ag : Option Addr) (bl cp : Nat → Nat), j ≤ n2 ∧ ti = .int .i64 j ∧ t12 = .slice Ag j cc ∧ Grid wr w2.heap.size Ag j cc k bl cp (fun _ _ => 0) ∧ E w2 wr) (fun _ ti _ => n2 - (intOf ti).toNat)
  case atStart => exact ⟨0, 0, none, fun _ => 0, fun _ => 0, Nat.zero_le _, rfl, rfl, ⟨⟨rfl, .inl ⟨rfl, rfl⟩⟩, fun p hp => absurd hp (by omega), fun p q hp => absurd hp (by omega)⟩, E.refl _⟩
  case round =>
    obtain ⟨j, cc, Ag, bl, cp, hj, rfl, rfl, hG, hEw⟩ := hrel
    by_cases hjn : (j : Int) < (n2 : Int)
    · go_wp2_with fail
      refine (zero_c k _ (by omega)).mono ?_
      rintro e w3 ⟨A3, n3, c3, rfl, hO3, hE3⟩
      have hn3 := hO3.1
      rw [List.length_replicate] at hn3
      subst hn3
      obtain ⟨b1, rfl⟩ : ∃ b1, A3 = some ⟨b1, 0, none⟩ := by
        rcases hO3.form with ⟨_, h0, _⟩ | ⟨g, e, _⟩
        · omega
        · exact ⟨g, e⟩
      have hb1 := hO3.ltN b1 rfl
      have hnew : ∀ p, p < j → bl p ≠ b1 := fun p hp e => by have := (hG.2.1 p hp).ltN (bl p) rfl; omega
      have hO3' : Own .i64 3 w3 w2.heap.size (some ⟨b1, 0, none⟩) k c3 (rowF (fun _ => 0) k) := by
        have e : rowF (fun _ => 0) k = List.replicate k 0 := by
          apply List.ext_getElem?
          intro q
          by_cases hq : q < k
          · rw [rowF_get _ hq, List.getElem?_replicate, if_pos hq]
          · rw [List.getElem?_eq_none (by rw [rowF_len]; omega), List.getElem?_eq_none (by rw [List.length_replicate]; omega)]
        rw [e]
        exact hO3.rebase hEw.le
      have hG3 := hG.e hE3
      have hEw3 := hEw.trans hE3
      have hbs := hEw3.le
      clear hO3 hG
      go_wp2_with (at_builtin; refine wpList_appG Try.underlying23 (by kernel_rfl) _ rfl _ _ rfl w2.heap.size _ _ _ _ _ _ _ rfl hG3 b1 c3 _ rfl hO3' hnew (by omega) hbs ?_; intro A4 c4 w4 hG4 hB4)
      have hR : (fun p => if p = j then (fun _ => (0 : Int)) else (fun _ => 0) : Nat → Nat → Int) = fun _ _ => 0 := by funext p; split <;> rfl
      rw [hR] at hG4
      go_roundw
      case rel => exact ⟨j + 1, c4, A4, _, _, by omega, by go_num, rfl, hG4, hEw3.up hB4⟩
      case measure => simp [intOf]; omega
    · have hjn2 : j = n2 := by omega
      subst hjn2
      clear hjn hj
      have HPre : ∀ x, 0 ≤ x → x ≤ 1099511627776 → splitS x (weightsL lw) = (splitL x (weightsL lw), 0) := fun x h0 h1 => by rw [splitS, if_pos (splitOk_of (weightsL_pre h0 h1 lw))]
      have HPH := Lib.hid HPre
      clear HPre
      go_wp2_with fail
      rw [← shR_zero (bagL k l 0) (weightsL lw)] at hG
      obtain ⟨ww, rfl⟩ : ∃ ww : World, ww = wr := ⟨_, rfl⟩
      go_loopw [14] (fun ti wr => ∃ i : Nat, i ≤ k ∧ ti = .int .i64 i ∧ Grid wr w2.heap.size Ag j cc k bl cp (shR (bagL k l 0) (weightsL lw) i 0) ∧ E w2 wr) (fun ti _ => k - (intOf ti).toNat)
      case atStart => exact ⟨0, Nat.zero_le _, rfl, hG, hEw⟩
      case round =>
        clear hG hEw
        obtain ⟨i, hi, rfl, hG, hEw⟩ := hrel
        by_cases hik : (i : Int) < (k : Int)
        · obtain ⟨ba, oa, x, rfl, hba, hx, hwx, hcx⟩ := (hA.e hEw).get (i := i) (by omega)
          have hxr : 0 ≤ x ∧ x ≤ 1099511627776 := by
            have := List.mem_of_getElem? hx
            obtain ⟨q, _, rfl⟩ := List.mem_map.1 this
            exact bagE_ok l _
          go_wp2_with fail
          refine (split_c x _ _ _ _ _ (hW.e hEw) (by omega)).mono ?_
          rintro e w5 ⟨A5, n5, c5, rfl, hO5, hE5⟩
          rw [HPH.out x hxr.1 hxr.2] at hO5 ⊢
          have hn5 : n5 = j := by have := hO5.1; have := hW.len; simp only at *; rw [splitL_len] at *; omega
          subst hn5
          have hbl : ∀ p, p < n5 → bl p < wr.heap.size := fun p hp => ((hG.2.1 p hp).ltN (bl p) rfl).2
          obtain ⟨b5, hb5⟩ : ∃ b5, wr.heap.size = b5 := ⟨_, rfl⟩
          rw [hb5] at hbl hO5
          replace hG := hG.e hE5
          replace hEw := hEw.trans hE5
          have hgd : (bagL k l 0).getD i 0 = x := by rw [List.getD_eq_getElem?_getD, hx]; rfl
          have HGD := Lib.hid hgd
          clear hE5 hcx hba hx hgd hb5
          go_wp2_with fail
          go_loopw [17] (fun ti wq => ∃ P : Nat, P ≤ n5 ∧ ti = .int .i64 P ∧ Grid wq w2.heap.size Ag n5 cc k bl cp (shR (bagL k l 0) (weightsL lw) i P) ∧ E w2 wq ∧ Own .i64 3 wq b5 A5 n5 c5 (splitL x (weightsL lw))) (fun ti _ => n5 - (intOf ti).toNat)
          case atStart => exact ⟨0, Nat.zero_le _, rfl, hG, hEw, hO5⟩
          case round =>
            clear hG hEw hO5
            obtain ⟨P, hP, rfl, hG, hEw, hO5⟩ := hrel
            by_cases hPn : (P : Int) < (n5 : Int)
            · obtain ⟨g, rfl, hg0, hg1, hgc⟩ := hG.get (p := P) (by omega)
              obtain ⟨b6, o6, y, rfl, hb6, hy, hwy, hcy⟩ := hO5.reads.get (i := P) (by omega)
              have hbp := hbl P (by omega)
              have hin := (hG.2.1 P (by omega)).getg (i := i) (by omega)
              have hset := hG.set (p := P) (by omega) i y hwy
              have hgd : y = (splitL ((bagL k l 0).getD i 0) (weightsL lw)).getD P 0 := by rw [HGD.out, List.getD_eq_getElem?_getD, hy]; rfl
              rw [shR_step _ _ _ _ _ hgd] at hset
              obtain ⟨xo, hi1, hin⟩ := hin
              have hE' := hEw.setCell (p := ⟨bl P, i, none⟩) hi1 (.int .i64 y)
              have hne6 : b6 ≠ bl P := fun e => by have := (hO5.ltN b6 rfl).1; omega
              have hO' : Own .i64 3 (wr.setCell ⟨bl P, i, none⟩ (.int .i64 y)) b5 (some ⟨b6, o6, none⟩) n5 c5 (splitL x (weightsL lw)) := hO5.far (p := ⟨bl P, i, none⟩) (fun e => hne6 (by simpa [Value.ownBlock] using e)) _
              obtain ⟨_, _, _, hci, hfi⟩ := hin
              have hkI : (i : Int) < (k : Int) := hik
              clear hG hEw hO5 hgd
              go_wp2_with fail
              go_region
              all_goals go_wp2_with fail
              refine ⟨⟨P + 1, by omega, by go_num, hset.e ((E.refl _).drew), hE'.drew, hO'.e ((E.refl _).drew)⟩, by simp [intOf]; omega⟩
            · have hPe : P = n5 := by omega
              have hG' : Grid wr w2.heap.size Ag n5 cc k bl cp (shR (bagL k l 0) (weightsL lw) (i + 1) 0) := hG.congr (fun p q hp hq => by
                have e : (q < i ∨ (q = i ∧ p < P)) ↔ (q < i + 1 ∨ (q = i + 1 ∧ p < 0)) := by omega
                simp only [shR, e])
              clear hG
              go_wp2_with fail
              go_roundw
              case rel => exact ⟨i + 1, by omega, by go_num, hG', hEw⟩
              case measure => simp [intOf]; omega
        · have hik2 : i = k := by omega
          subst hik2
          go_wp2_with fail
          refine (zero_c i _ (by omega)).mono ?_
          rintro e w6 ⟨A6, n6, c6, rfl, hO6, hE6⟩
          have hn6 := hO6.1
          rw [List.length_replicate] at hn6
          subst hn6
          replace hG := hG.e hE6
          replace hEw := hEw.trans hE6
          have hj0 : 0 < j := by
            have := hW.len
            rcases Nat.eq_zero_or_pos j with h0 | h0
            · rw [h0] at this
              have h3 := (weightsL_sum lw).1
              rw [List.eq_nil_of_length_eq_zero this] at h3
              exact absurd h3 (by decide)
            · exact h0
          obtain ⟨T, hT⟩ : ∃ T : Nat, turn % (j : Int) = T := ⟨(turn % (j : Int)).toNat, by have := Int.emod_nonneg turn (show (j : Int) ≠ 0 by omega); omega⟩
          have hTj : T < j := by have := Int.emod_lt_of_pos turn (show (0 : Int) < (j : Int) by omega); omega
          obtain ⟨GR, hGR⟩ : ∃ GR, shR (bagL i l 0) (weightsL lw) i 0 = GR := ⟨_, rfl⟩
          have hGF : ∀ q, q < i → (∀ p, 0 ≤ GR p q) ∧ (∀ P, 0 ≤ sm (fun r => GR ((r + T) % j) q) P) ∧ (∀ P, P ≤ j → sm (fun r => GR ((r + T) % j) q) P ≤ 1099511627776) ∧ sm (fun r => GR ((r + T) % j) q) j = (bagL i l 0).getD q 0 := fun q hq => by
            have hx : (bagL i l 0).getD q 0 = bagE l q := by simp [bagL, hq, List.getD_eq_getElem?_getD]
            have hr := bagE_ok l q
            have hf := share_sum (T := T) hq hW.len (weightsL_pre (t := (bagL i l 0).getD q 0) (by omega) (by omega) lw)
            rw [hGR] at hf
            have hnn : ∀ r, 0 ≤ GR ((r + T) % j) q := fun r => hf.1 _
            refine ⟨hf.1, fun P => ?_, fun P hP => ?_, hf.2⟩
            · exact sm_le hnn (Nat.zero_le P)
            · have := sm_le hnn hP
              omega
          have HGF := Lib.hid hGF
          have HGL := Lib.hid (show ∀ q, q < i → ∀ p, p < j → GR p q ≤ 1099511627776 from fun q hq p hp => by
            have e : GR p q = (splitL ((bagL i l 0).getD q 0) (weightsL lw)).getD p 0 := by rw [← hGR]; simp [shR, hq]
            have hx : (bagL i l 0).getD q 0 = bagE l q := by simp [bagL, hq, List.getD_eq_getElem?_getD]
            have hr := bagE_ok l q
            rw [e, List.getD_eq_getElem?_getD]
            cases hy : (splitL ((bagL i l 0).getD q 0) (weightsL lw))[p]? with
            | none => simp
            | some y =>
              have := (splitL_range (weightsL_pre (t := (bagL i l 0).getD q 0) (by omega) (by omega) lw) y (List.mem_of_getElem? hy)).2
              simp only [Option.getD_some]
              omega)
          clear hGF
          rw [hGR] at hG
          go_wp2_with fail
          go_loopw [18, 19] (fun ts ti wr => ∃ (P cs : Nat) (As : Option Addr), P ≤ j ∧ ti = .int .i64 P ∧ ts = .slice As i cs ∧ Nums .i64 wr As i cs (rowF (fun q => sm (fun r => GR ((r + T) % j) q) P) i) ∧ Grid wr w2.heap.size Ag j cc i bl cp GR ∧ E w2 wr) (fun _ ti _ => j - (intOf ti).toNat)
          case atStart =>
            have e0 : rowF (fun q => sm (fun r => GR ((r + T) % j) q) 0) i = List.replicate i 0 := by
              apply List.ext_getElem?
              intro q
              by_cases hq : q < i
              · rw [rowF_get _ hq, List.getElem?_replicate, if_pos hq]; rfl
              · rw [List.getElem?_eq_none (by rw [rowF_len]; omega), List.getElem?_eq_none (by rw [List.length_replicate]; omega)]
            exact ⟨0, c6, A6, Nat.zero_le _, rfl, rfl, by rw [e0]; exact hO6.reads, hG, hEw⟩
          case round =>
            clear hG hEw hO6
            obtain ⟨P, cs, As, hP, rfl, rfl, hS, hG, hEw⟩ := hrel
            by_cases hPj : (P : Int) < (j : Int)
            · go_wp2_with fail
              refine (aroundR turn j _ ht1 ht2 (by omega) (by omega)).mono ?_
              rintro e w' ⟨rfl, rfl⟩
              rw [hT]
              have hQ : ((P + T) % j : Nat) < j := Nat.mod_lt _ hj0
              obtain ⟨Qi, hQi⟩ : ∃ Qi : Nat, (P + T) % j = Qi := ⟨_, rfl⟩
              have hQe : ((P : Int) + (T : Int)) % (j : Int) = (Qi : Int) := by rw [← hQi, Int.natCast_emod, Int.natCast_add]
              rw [hQi] at hQ
              obtain ⟨g, rfl, hg0, hg1, hgc⟩ := hG.get (p := Qi) (by omega)
              have hQI : (Qi : Int) < (j : Int) := by omega
              go_wp2_with fail
              refine (add_c _ _ _ _ _ _ _ _ _ hS (hG.2.1 Qi hQ).reads).mono ?_
              rintro e w7 ⟨A7, n7, c7, rfl, hO7, hE7⟩
              have hadd : addS (rowF (fun q => sm (fun r => GR ((r + T) % j) q) P) i) (rowF (GR Qi) i) = (rowF (fun q => sm (fun r => GR ((r + T) % j) q) (P + 1)) i, 0) := by
                rw [addS_row (by omega) (fun q hq => (HGF.out q hq).2.1 P) (fun q hq => (HGF.out q hq).1 Qi) (fun q hq => ?_)]
                · simp only [sm, hQi]
                · have := (HGF.out q hq).2.2.1 (P + 1) (by omega)
                  simp only [sm, hQi] at this
                  exact this
              rw [hadd] at hO7 ⊢
              have hn7 := hO7.1
              simp only [rowF_len] at hn7
              subst hn7
              replace hG := hG.e hE7
              replace hEw := hEw.trans hE7
              have hS7 := hO7.reads
              clear hS hE7 hO7 hgc hadd
              obtain ⟨g', e', hg0', hg1', hgc'⟩ := hG.get (p := P) (by omega)
              injection e' with e'
              injection e' with e'
              subst e'
              have hbagP : isBagB (rowF (GR P) i) = true := rowF_bag (by omega) (fun q hq => ⟨(HGF.out q hq).1 P, HGL.out q hq P (by omega)⟩)
              have HENC := Lib.hid (show ∃ r, encodeS (rowF (GR P) i) = uv (zig (i : Int)) ++ r from ⟨_, by rw [encodeS, if_pos hbagP, rowF_len, List.append_assoc]⟩)
              go_wp2_with fail
              refine (encode_c _ _ _ _ _ (hG.2.1 P (by omega)).reads).mono ?_
              rintro e w8 ⟨A8, n8, c8, rfl, hO8, hE8⟩
              replace hG := hG.e hE8
              replace hEw := hEw.trans hE8
              replace hS7 := hS7.e hE8
              clear hE8 hgc'
              have hn8 : n8 ≤ 100000 := by rw [← hO8.1]; exact enc_len2 _
              go_wp2_with fail
              refine (read_c _ _ _ _ _ hO8.reads (by omega)).mono ?_
              rintro e w9 ⟨g9, rfl, hR9, hg9, hE9⟩
              obtain ⟨rr, hrr⟩ := HENC.out
              have hRI := rInt_c _ _ _ _ hR9
              rw [hrr, rdIS_zig (i : Int) rr (by omega) (by omega)] at hRI
              have HEW := Lib.hid (fun (w10 : World) (hG10 : w9.grownBy w10 (some g9)) => hE9.grown hG10 (fun k hk => by injection hk with hk; omega))
              clear hrr hR9
              go_wp2_with fail
              refine hRI.mono ?_
              rintro e w10 ⟨rfl, hR10, hG10⟩
              have hE10 := HEW.out w10 hG10
              clear hRI hR10 hG10
              go_wp2_with fail
              go_roundw
              case rel => exact ⟨P + 1, c7, A7, by omega, by go_num, rfl, hS7.e hE10, hG.e hE10, hEw.trans hE10⟩
              case measure => simp [intOf]; omega
            · have hPe : P = j := by omega
              have hsum : rowF (fun q => sm (fun r => GR ((r + T) % j) q) P) i = bagL i l 0 := by
                apply List.ext_getElem?
                intro q
                by_cases hq : q < i
                · have hl : q < (bagL i l 0).length := by rw [bagL_len]; exact hq
                  rw [rowF_get _ hq, hPe, (HGF.out q hq).2.2.2, List.getD_eq_getElem?_getD, List.getElem?_eq_getElem hl]; rfl
                · rw [List.getElem?_eq_none (by rw [rowF_len]; omega), List.getElem?_eq_none (by rw [bagL_len]; omega)]
              rw [hsum] at hS
              have hEA := hA.e hEw
              clear hG hsum
              go_wp2_with fail
              refine (sameR_t _ _ _ _ _ _ _ _ hS hEA).mono ?_
              rintro e w11 ⟨rfl, hE11⟩
              replace hS := hS.e hE11
              replace hEA := hEA.e hE11
              replace hEw := hEw.trans hE11
              clear hE11
              go_wp2_with fail
              refine (encode_c _ _ _ _ _ hS).mono ?_
              rintro e w12 ⟨A12, n12, c12, rfl, hO12, hE12⟩
              replace hEA := hEA.e hE12
              replace hEw := hEw.trans hE12
              have hn12 : n12 ≤ 1000000 := by have := enc_len2 (bagL i l 0); have := hO12.1; omega
              clear hE12 hS
              go_wp2_with fail
              refine (bytes_c _ (by decide) _ _ _ _ _ hO12.reads hn12).mono ?_
              rintro e w13 ⟨rfl, hE13⟩
              replace hEA := hEA.e hE13
              replace hEw := hEw.trans hE13
              clear hE13 hO12 hn12
              obtain ⟨hv, hhv⟩ : ∃ hv, bytesS { data := #[98, 97, 103] } (encodeS (bagL i l 0)) = hv := ⟨_, rfl⟩
              rw [hhv]
              go_wp2_with fail
              refine (encode_c _ _ _ _ _ hEA).mono ?_
              rintro e w14 ⟨A14, n14, c14, rfl, hO14, hE14⟩
              replace hEw := hEw.trans hE14
              have hn14 : n14 ≤ 1000000 := by have := enc_len2 (bagL i l 0); have := hO14.1; omega
              clear hE14 hEA
              go_wp2_with fail
              refine (bytes_c _ (by decide) _ _ _ _ _ hO14.reads hn14).mono ?_
              rintro e w15 ⟨rfl, hE15⟩
              replace hEw := hEw.trans hE15
              rw [hhv]
              clear hE15 hO14 hn14 hhv
              go_wp2_with fail
              refine (lives_c _).mono ?_
              rintro e w16 ⟨rfl, hE16⟩
              replace hEw := hEw.trans hE16
              go_wp2_with fail
              go_ret
              exact ⟨rfl, hE.trans hEw⟩
end Go.Proofs.Ytbpfdogjjoceaaa
