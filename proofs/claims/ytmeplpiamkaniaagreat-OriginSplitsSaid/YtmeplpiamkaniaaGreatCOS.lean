/- Lemmas of the claim, joined: LawOS. No condition. -/
import Derived.Test.YtmeplpiamkaniaaGreatJX
import Derived.Test.YtmeplpiamkaniaaGreatJE
import Derived.Test.YtmeplpiamkaniaaGreatJH
import Derived.Test.YtmeplpiamkaniaaGreatJI
import Derived.Test.YtmeplpiamkaniaaGreatJG
namespace Go.Proofs.YtmeplpiamkaniaaGreat
set_option linter.unusedVariables false
set_option linter.unusedSimpArgs false
open Go.RowKit
theorem FRow.one {w : World} {f : Fl} {base : Nat} (hb : base ≤ w.heap.size) (hw : WfF f) (h1 : f.parts = []) (h2 : f.made = []) : FRow (w.alloc (.cells (flowL f zS zS).toArray 43)) base (some ⟨w.heap.size, 0, none⟩) 1 1 [(f, zS, zS)] :=
  ⟨rfl, ⟨rfl, .inr ⟨w.heap.size, 1, _, rfl, hb, heap_alloc_new w _, Nat.le_refl _, by unfold maxLen; omega, rfl, rfl⟩⟩, fun p hp => by
    rw [List.mem_singleton] at hp
    subst hp
    refine ⟨hw, ⟨?_, ?_⟩, fun h => absurd h (by simp [zS]), fun h => absurd h (by simp [zS])⟩
    · rw [h1]; exact LotsAt.nil _ _ _ (Nat.zero_le _)
    · rw [h2]; exact Nums.nil _ _ _ _ (Nat.zero_le _)⟩
theorem lotL_len (s n : Int) : (lotL s n).length ≤ 1 := by unfold lotL; split <;> simp
theorem wf00 : (Lit.int .i64 0).wf = true := by decide
theorem wff_small {i s n : Int} (h1 : 0 ≤ i ∧ i ≤ 1000000) (h3 : 0 ≤ n ∧ n ≤ 1000000) : WfF (flP i s n) :=
  ⟨wf_of_i64 (by simp only [flP]; omega) (by simp only [flP]; omega), wf00, wf00, wf00, wf00, wf00, wf00, wf00, wf_of_i64 (by simp only [flP]; omega) (by simp only [flP]; omega)⟩
theorem wff_root {n : Int} (h3 : 0 ≤ n ∧ n ≤ 1000000) : WfF (flR n) :=
  ⟨wf00, wf00, wf00, wf00, wf00, wf00, wf00, wf00, wf_of_i64 (by simp only [flR]; omega) (by simp only [flR]; omega)⟩
theorem flow_push2 {wa wr w1 : World} {A : Option Addr} {i c : Nat} {q : List FlSl} (hF : FRow wa w1.heap.size A i c q) (hE1 : E w1 wa) (hE : E wa wr) (f : Fl) (s t : Sl) (hw : WfF f) (hb : FlB wr f s t) (h1 : 0 < s.2.1 → ob s.1 ≠ ob A) (h2 : 0 < t.2.1 → ob t.1 ≠ ob A) (hi : i ≤ 1000) (ty : TypeId) :
    ∃ g' c' V1, (Builtin.append_ #[23, 23] ty #[.slice A i c, .slice (some ⟨wr.heap.size, 0, none⟩) 1 1]).run Tryz.prog (wr.alloc (.cells #[.int .i64 f.id, .int .i64 f.step, .int .i64 f.kind, .int .i64 f.tick, .int .i64 f.actor, .int .i64 f.frm, .int .i64 f.to, .int .i64 f.item, .int .i64 f.n, .slice s.1 s.2.1 s.2.2, .slice t.1 t.2.1 t.2.2] 43)) = .ok (.slice (some ⟨g', 0, none⟩) (i + 1) c') V1 ∧ FRow V1 w1.heap.size (some ⟨g', 0, none⟩) (i + 1) c' (q ++ [(f, s, t)]) ∧ E w1 V1 ∧ ∀ (A2 : Option Addr) (n c : Nat) (l : List Lt), LotsAt wr A2 n c l → (0 < n → ob A2 ≠ ob A) → LotsAt V1 A2 n c l := by
  obtain ⟨V, hV⟩ : ∃ V, wr.alloc (.cells #[.int .i64 f.id, .int .i64 f.step, .int .i64 f.kind, .int .i64 f.tick, .int .i64 f.actor, .int .i64 f.frm, .int .i64 f.to, .int .i64 f.item, .int .i64 f.n, .slice s.1 s.2.1 s.2.2, .slice t.1 t.2.1 t.2.2] 43) = V := ⟨_, rfl⟩
  have hEV : E wr V := by rw [← hV]; exact (E.refl wr).alloc _
  have hc := fl_new_cells wr f s t
  rw [hV] at hc ⊢
  have hFV := (hF.e hE).e hEV
  obtain ⟨g', c', V1, hrun, hO, hG, _⟩ := run_appF V ty w1.heap.size A i c q hFV (f, s, t) hw (hb.e hEV) h1 h2 ⟨wr.heap.size, 0, none⟩ hc 1 (by omega) ((hE1.trans hE).trans hEV).le
  exact ⟨g', c', V1, hrun, hO, ((hE1.trans hE).trans hEV).grown hG (fun k hk => (hFV.ltN k hk).1), fun A2 n c l hL hne => (hL.e hEV).grown hG hne⟩
set_option linter.unusedSimpArgs false in
set_option maxHeartbeats 16000000 in
set_option maxRecDepth 100000 in
theorem originSplits_w (m : Int) (A0 : Option Addr) (n0 c0 : Nat) (l : List Int) (w : World) (hm : (Lit.int .i64 m).wf = true) (h0 : Nums .i64 w A0 n0 c0 l) :
    Calls Tryz.prog 4 #[.int .i64 m, .slice A0 n0 c0] w (RetK w true) := by
  obtain ⟨m1, m2⟩ := wf_i64 hm
  have HAR := Lib.hid (fun W => aroundR m 1000 W m1 m2 (by omega) (by omega))
  obtain ⟨a, ha⟩ : ∃ a, m % 1000 = a := ⟨_, rfl⟩
  rw [ha] at HAR
  have ha0 : 0 ≤ a ∧ a < 1000 := by omega
  obtain ⟨t, ht⟩ : ∃ t, 1 + a = t := ⟨_, rfl⟩
  have ht1 : 1 ≤ t ∧ t ≤ 1000 := by omega
  have hpre := weightsL_pre (t := t) (by omega) (by omega) l
  have HWS := Lib.hid (refWeights_c A0 n0 c0 l w h0)
  have HSP := Lib.hid (fun A n c W (h : Nums .i64 W A n c (weightsL l)) (hn : n ≤ 1048576) => show Calls Tryz.prog 18 #[.int .i64 t, .slice A n c] W (RetOwnErr .i64 3 W (splitL t (weightsL l), 0)) from by
    have := split_c t A n c (weightsL l) W h hn
    rwa [splitS, if_pos (splitOk_of hpre)] at this)
  have hwl := weightsL_len l
  have HSum := Lib.hid (splitL_sum hpre)
  have HR := Lib.hid (splitL_range hpre)
  have HLen := Lib.hid (splitL_len t (weightsL l))
  have HLV := Lib.hid (fun W => lives15_c W)
  have HWL := Lib.hid hwl
  clear hpre h0 hm hwl
  go_enter Tryz.func4, Tryz.ntmps4
  go_upto_region 2 with (go_at_call 17; refine (HAR.out _).mono ?_; rintro e wy ⟨rfl, rfl⟩)
  (try simp only [ht])
  clear ht ha0 ha
  go_upto_region 3 with (first
    | (go_at_call 19; refine HWS.out.mono ?_; rintro e w1 ⟨A1, n1, c1, rfl, hO1, hE1⟩; have hn1 : n1 ≤ 1048576 := (by have h1 := hO1.1; have h2 := HWL.out; rw [h1] at h2; omega))
    | (go_at_call 18; refine (HSP.out A1 n1 c1 w1 hO1.reads hn1).mono ?_; rintro e w2 ⟨A2, n2, c2, rfl, hO2, hE2⟩))
  have HE2 := Lib.hid (hE1.trans hE2)
  have hl2 := hO2.1
  have HPS := Lib.hid hO2.reads
  have hlen := HLen.out
  have hwl := HWL.out
  (try simp only at hl2)
  generalize splitL t (weightsL l) = ps at *
  have hn7 : n2 ≤ 7 := by omega
  clear hE1 hE2 hO1 hO2 hn1 hlen hwl HWL HLen HWS HSP HAR m1 m2
  have HN2 := Lib.hid hl2
  obtain ⟨w4, hw4⟩ : ∃ w4, (w2.alloc (.cells #[.int .i64 0, .int .i64 0, .int .i64 0, .int .i64 0, .int .i64 0, .int .i64 0, .int .i64 0, .int .i64 0, .int .i64 t, .slice none 0 0, .slice none 0 0] 43)).alloc (.cells #[.int .i64 0, .int .i64 0, .int .i64 t] 30) = w4 := ⟨_, rfl⟩
  have hE4 : E w2 w4 := by rw [← hw4]; exact ((E.refl w2).alloc _).alloc _
  have hF4 : FRow w4 w2.heap.size (some ⟨w2.heap.size, 0, none⟩) 1 1 [(flR t, zS, zS)] := by
    rw [← hw4]
    exact (FRow.one (f := flR t) (Nat.le_refl _) (wff_root (by omega)) rfl rfl).e ((E.refl _).alloc _)
  have hS4 : LotsAt w4 (some ⟨w2.heap.size + 1, 0, none⟩) 1 1 (lotL 0 t) := by
    have := lot_new (w := w2.alloc (.cells #[.int .i64 0, .int .i64 0, .int .i64 0, .int .i64 0, .int .i64 0, .int .i64 0, .int .i64 0, .int .i64 0, .int .i64 t, .slice none 0 0, .slice none 0 0] 43)) (x := (0, 0, t)) ⟨wf00, wf00, wf_of_i64 (by simp only; omega) (by simp only; omega)⟩
    rw [World.size_alloc] at this
    rw [lotL, if_neg (by omega), ← hw4]
    exact this
  have HF4 := Lib.hid hF4
  have HS4 := Lib.hid hS4
  have HE4 := Lib.hid hE4
  have HSP0 := Lib.hid (SpF.start ht1.1 (by omega))
  clear hE4 hF4 hS4
  go_upto_region 7 with fail
  (try simp only [World.size_alloc])
  (try rw [hw4])
  clear hw4
  go_wp2_with fail
  go_loopw [8, 9, 10] (fun t8 t9 t10 wr => ∃ (k n8 c8 n9 c9 : Nat) (A8 A9 : Option Addr) (q : List FlSl) (rest : List Fl) (s : Int), k ≤ n2 ∧ t8 = .slice A8 n8 c8 ∧ t9 = .slice A9 n9 c9 ∧ t10 = .int .i64 k ∧ FRow wr w2.heap.size A8 n8 c8 q ∧ LotsAt wr A9 n9 c9 (lotL s (t - s)) ∧ Hid (q.map Prod.fst = flR t :: rest ∧ SpF t k s rest ∧ s = (ps.take k).sum) ∧ E w2 wr) (fun _ _ t10 _ => n2 - (intOf t10).toNat)
  case atStart => exact ⟨0, 1, 1, 1, 1, _, _, _, [], 0, Nat.zero_le _, rfl, rfl, rfl, HF4.out, by rw [Int.sub_zero]; exact HS4.out, ⟨rfl, HSP0.out, by simp⟩, HE4.out⟩
  case round =>
    obtain ⟨k, n8, c8, n9, c9, A8, A9, q, rest, s, hk, rfl, rfl, rfl, hF, hL, hq, hE⟩ := hrel
    obtain ⟨hq1, hq2, hq3⟩ := hq.out
    have HPS2 := Lib.hid (fun x (hx : x ∈ ps) => HR.out x hx)
    by_cases hlt : k < n2
    · have hkI : (k : Int) < (n2 : Int) := by omega
      have hk0 : (0 : Int) ≤ (k : Int) := by omega
      obtain ⟨b, o, p, hA2, hb, hp, hwp, cp⟩ := (HPS.out.e hE).get hlt
      have hp0 := HR.out p (List.mem_of_getElem? hp)
      have hps : ∀ x ∈ ps, 0 ≤ x := fun x hx => (HR.out x hx).1
      have hs2 : (ps.take (k + 1)).sum = s + p := by rw [List.take_add_one, hp, List.sum_append, ← hq3]; simp
      have hs3 : s + p ≤ t := by rw [← hs2, ← HSum.out]; exact sum_take_le hps _
      have hs0 : 0 ≤ s := by rw [hq3]; exact sum_nonneg fun x hx => hps x (List.mem_of_mem_take hx)
      have hT := take_c p false A9 n9 c9 _ wr hL
      rw [takeS_lotL hs0 hp0.1 (by omega) (by omega), show t - s - p = t - (s + p) by omega] at hT
      have HT := Lib.hid hT
      have HF := Lib.hid hF
      have HE := Lib.hid hE
      have HP := Lib.hid hp
      have HQ1 := Lib.hid hq1
      have HQ2 := Lib.hid hq2
      have HS2 := Lib.hid hs2.symm
      have hwk : IntKind.i64.wrap ((k : Int) + 1) = (k : Int) + 1 := by rw [IntKind.wrap_i64]; omega
      subst hA2
      have hn8 : n8 ≤ 1000 := by
        have h1 := hq2.len
        have h2 := congrArg List.length hq1
        have h3 := hF.1
        rw [List.length_map, List.length_cons] at h2
        omega
      have hC := (show ∀ W, E wr W → W.cell? ⟨b, o + k, none⟩ = some (.int .i64 p) from fun W hW => (hW.cell (p := ⟨b, o + k, none⟩) hb).trans cp)
      have HC := Lib.hid hC
      clear hT hF hE hp hq1 hq2 hq3 hps hs2 hL hC hq
      go_upto_region 11 with (go_at_call 20; refine HT.out.mono ?_; rintro e w5 ⟨A11, n11, c11, A12, n12, c12, rfl, hO11, hO12, hE5⟩)
      have HO11 := Lib.hid hO11
      have HO12 := Lib.hid hO12
      have HE5 := Lib.hid hE5
      have cp5 := HC.out w5 hE5
      clear hO11 hO12 hE5 cp HT
      by_cases hpp : 0 < p
      · have dp : decide (0 < p) = true := by simpa using hpp
        obtain ⟨g', c', V1, hrun, hFR, hEV, hST⟩ := flow_push2 HF.out HE.out HE5.out (flP ((k : Int) + 1) s p) (A11, n11, c11) zS (wff_small (by omega) (by omega)) ⟨(by
            have := HO11.out.reads
            rw [lotL, if_neg (by omega)] at this
            exact this), Nums.nil _ _ _ _ (Nat.zero_le _)⟩ (fun h0 e => by
            cases hb4 : ob A11 with
            | none =>
              rcases HO11.out.form with ⟨rfl, h1, _⟩ | ⟨g9, rfl, _⟩
              · have h9 : 0 < n11 := h0; omega
              · cases hb4
            | some b4 =>
              have h1 := (HO11.out.ltN b4 hb4).1
              rw [show ob (A11, n11, c11).1 = ob A11 from rfl, hb4] at e
              have := (HF.out.ltN b4 e.symm).2
              omega) (fun h0 e => absurd h0 (by simp [zS])) hn8 23
        (try simp only [flP, zS] at hrun)
        have HFR := Lib.hid hFR
        have HST := Lib.hid (hST A12 n12 c12 _ HO12.out.reads (fun h0 e => by
            obtain ⟨b4, o4, e4, _⟩ := HO12.out.reads.at_ h0
            have h1 := (HO12.out.ltN b4 (by rw [e4]; rfl)).1
            rw [e4] at e
            have := (HF.out.ltN b4 e.symm).2
            omega))
        clear hST
        have HEV := Lib.hid hEV
        clear hFR hEV
        go_wp2_with (at_builtin; refine wpList_app_runM rfl _ _ rfl rfl rfl hrun ?_)
        go_roundw
        case rel => exact ⟨k + 1, _, _, _, _, _, _, _, rest ++ [flP ((k : Int) + 1) s p], s + p, by omega, rfl, rfl, by go_num, HFR.out, HST.out, ⟨by rw [List.map_append, HQ1.out]; rfl, HQ2.out.put hs0 (by omega) hs3 (by omega), HS2.out⟩, HEV.out⟩
        case measure => simp [intOf]; omega
      · have dp : decide (0 < p) = false := by simpa using hpp
        have hpz : p = 0 := by omega
        subst hpz
        go_wp2_with fail
        go_roundw
        case rel => exact ⟨k + 1, _, _, _, _, _, _, _, rest, s, by omega, rfl, rfl, by go_num, HF.out.e HE5.out, by have := HO12.out.reads; rwa [Int.add_zero] at this, ⟨HQ1.out, HQ2.out.skip, by have := HS2.out; omega⟩, HE.out.trans HE5.out⟩
        case measure => simp [intOf]; omega
    · have hkn : k = n2 := by omega
      subst hkn
      have hst : s = t := by rw [hq3, List.take_of_length_le (by have := HN2.out; omega)]; exact HSum.out
      subst hst
      rw [Int.sub_self] at hL
      have hn9 : n9 = 0 := hL.len.symm
      subst hn9
      have hfl := hF.flows.cast hq1
      have hn8 : n8 = rest.length + 1 := by have := hfl.len; rw [List.length_cons] at this; omega
      have hlr := hq2.len
      have HNW := Lib.hid (newOk_c A8 n8 c8 _ wr hfl (by omega) (fun f hf => by
        rcases List.mem_cons.1 hf with rfl | hf
        · simp [flR]
        · rw [hq2.made f hf]; simp) hq2.ok)
      have HQ2 := Lib.hid hq2
      have HFL := Lib.hid hfl
      have HE := Lib.hid hE
      have HN8 := Lib.hid hn8
      have HLR := Lib.hid hlr
      have HN7 := Lib.hid hn7
      clear hq hq1 hq2 hq3 hF hL hE hfl HPS2 HF4 HS4 HE4 HSP0 hn8 hlr hl2 hlt hk
      go_upto_region 17 with (go_at_call 7; refine HNW.out.mono ?_; rintro e w6 ⟨g, X, rfl, hG, hE6, _⟩)
      have HG := Lib.hid hG
      have HE6 := Lib.hid hE6
      obtain ⟨r, hr⟩ := HQ2.out.ok.root
      have HR2 := Lib.hid hr
      clear hG hE6 hr HNW
      go_wp2_with fail
      go_loopw [16, 17] (fun t16 t17 wx => ∃ (i n c : Nat) (A : Option Addr), i ≤ rest.length ∧ t17 = .int .i64 ((i + 1 : Nat) : Int) ∧ t16 = .slice A n c ∧ LotsAt wx A n c (lotL 0 ((rest.take i).map Fl.n).sum) ∧ E w6 wx) (fun _ t17 _ => n8 - (intOf t17).toNat)
      case atStart => exact ⟨0, 0, 0, none, Nat.zero_le _, rfl, rfl, LotsAt.nil _ _ _ (Nat.zero_le _), E.refl _⟩
      case round =>
        obtain ⟨i, n, c, A, hi, rfl, rfl, hA, hEr⟩ := hrel
        have hn8 := HN8.out
        have hlr := HLR.out
        by_cases hlt2 : i < rest.length
        · have hi8 : i + 1 < n8 := by omega
          have hiI : ((i + 1 : Nat) : Int) < (n8 : Int) := by omega
          have hn78 := HN7.out
          have hwk2 : IntKind.i64.wrap ((i : Int) + 1 + 1) = (i : Int) + 1 + 1 := by rw [IntKind.wrap_i64]; omega
          have hiI2 : (i : Int) + 1 < (n8 : Int) := by omega
          have hi0 : (0 : Int) ≤ (i : Int) + 1 := by omega
          obtain ⟨b, o, f, s1, s2, hA8, hb, hf, hwf, hcf, hB⟩ := (HFL.out.e (HE6.out.trans hEr)).get hi8
          rw [List.getElem?_cons_succ] at hf
          obtain ⟨idf, nf, rfl, hnf, hu0, hus⟩ := HQ2.out.at_ i f hf
          have hsum : ((rest.take (i + 1)).map Fl.n).sum = ((rest.take i).map Fl.n).sum + nf := by
            rw [List.take_add_one, hf, List.map_append, List.sum_append]; simp [flP]
          have hroot := HQ2.out.root (Int.le_refl _) (by omega) HR2.out hf hu0 hnf hus
          have HSM := Lib.hid hsum.symm
          generalize ((rest.take i).map Fl.n).sum = u at *
          have hwx : WfL (idf, 0, nf) := ⟨hwf.1, wf00, hwf.2.2.2.2.2.2.2.2⟩
          have HRT := Lib.hid (fun W (hE : E wr W) => by
            have := gRoots_c X g _ r (idf, 0, nf) W (HG.out.e (hEr.trans hE)) HR2.out hwx (fun _ => by simp only; omega)
            rw [hroot] at this
            exact this)
          unfold ltV at HRT
          unfold FlCells at hcf
          obtain ⟨x0, _, _, _, _, _, _, _, x8, _, _⟩ := hcf
          simp only [flP] at x0 x8
          have HME := Lib.hid (meet_lotL (a := u) (n := nf) hu0 (by omega) (by omega))
          have HUN := Lib.hid (union_lotL (a := u) (n := nf) hu0 (by omega) (by omega))
          have HA := Lib.hid hA
          have HER := Lib.hid hEr
          subst hA8
          clear hA hEr hroot hwx hsum hB hwf hf hn8 hlr
          go_upto_region 23 with fail
          go_region_held3 (fun w' => wr.heap.size ≤ w'.heap.size ∧ ∀ b o, b < wr.heap.size → w'.cell? ⟨b, o, none⟩ = wr.cell? ⟨b, o, none⟩) (first | exact keepE ((E.refl _).drew) | exact keepE hEa)
            (first | (go_at_call 21; refine (HRT.out _ ((E.refl wr).drew)).mono ?_; rintro e wa ⟨A6, n6, c6, rfl, hO6, hE7⟩; have hEa := ((E.refl wr).drew).trans hE7))
          rename_i hHd
          clear hHd
          have HE9 := Lib.hid (HER.out.trans hEa)
          have hl1 := HA.out.len
          have hl2 := hO6.1
          have hl3 := lotL_len 0 u
          have hl4 := lotL_len u nf
          rw [hl1] at hl3
          rw [hl2] at hl4
          have HMT := Lib.hid (by
            have := lMeet_c A n c _ A6 n6 c6 _ wa (HA.out.e hEa) hO6.reads (by omega) (by omega)
            rw [HME.out] at this
            exact this)
          have HUT := Lib.hid (fun W (hW : E wa W) => by
            have := lUnion_c A n c _ A6 n6 c6 _ W ((HA.out.e hEa).e hW) (hO6.reads.e hW)
            rw [HUN.out] at this
            exact this)
          clear hEa hO6 hE7 hl1 hl2 hl3 hl4 HRT x0 x8
          go_upto_region 26 with (go_at_call 22; refine HMT.out.mono ?_; rintro e wb ⟨A7, n7, c7, rfl, hO7, hE8⟩; have h7 : n7 = 0 := hO7.1.symm; subst h7)
          have HE8 := Lib.hid hE8
          clear hE8 hO7
          go_wp2_with (go_at_call 23; refine (HUT.out _ HE8.out).mono ?_; rintro e wc ⟨A9, n9, c9, rfl, hO9, hE9⟩; have HO9 := Lib.hid hO9; have HEE := Lib.hid hE9; clear hO9 hE9)
          go_roundw
          case rel => exact ⟨i + 1, _, _, _, by omega, by go_num, rfl, by rw [← HSM.out]; exact HO9.out.reads, (HE9.out.trans HE8.out).trans HEE.out⟩
          case measure => simp [intOf]; omega
        · have hie : i = rest.length := by omega
          subst hie
          rw [List.take_length, HQ2.out.sum, lotL, if_neg (by omega)] at hA
          have HA := Lib.hid hA
          obtain ⟨w8, hw8⟩ : ∃ w8, wr.alloc (.cells #[.int .i64 0, .int .i64 0, .int .i64 s] 30) = w8 := ⟨_, rfl⟩
          have hE8 : E wr w8 := by rw [← hw8]; exact (E.refl wr).alloc _
          have hL8 : LotsAt w8 (some ⟨wr.heap.size, 0, none⟩) 1 1 [(0, 0, s)] := by
            rw [← hw8]
            exact lot_new (w := wr) (x := (0, 0, s)) ⟨wf00, wf00, wf_of_i64 (by simp only; omega) (by simp only; omega)⟩
          have HSS := Lib.hid (same_self A (some ⟨wr.heap.size, 0, none⟩) n c 1 1 _ w8 (HA.out.e hE8) hL8)
          have HEF := Lib.hid (HE2.out.trans (HE.out.trans (HE6.out.trans (hEr.trans hE8))))
          have hn8 := HN8.out
          have HW8 := Lib.hid hw8
          clear hA hEr hE8 hL8 hw8
          go_wp2_with (first
            | (go_at_call 24; (try rw [HW8.out]); refine HSS.out.mono ?_; rintro e wn ⟨rfl, hEn⟩)
            | (go_at_call 11; refine (HLV.out _).mono ?_; rintro e wz ⟨rfl, hEz⟩))
          go_ret
          exact ⟨rfl, HEF.out.trans (hEn.trans hEz)⟩
end Go.Proofs.YtmeplpiamkaniaaGreat
