/- Lemmas of the claim, joined: GH GK GI GV. No condition. -/
import Derived.Test.YtmeplpiamkaniaaJH
import Derived.Test.YtmeplpiamkaniaaJE
import Derived.Test.YtmeplpiamkaniaaJG
import Derived.Test.YtmeplpiamkaniaaJC
import Derived.Test.YtmeplpiamkaniaaJF
import Derived.Test.YtmeplpiamkaniaaJQ
import Derived.Test.YtmeplpiamkaniaaJA
/- Later: the walk. -/
namespace Go.Proofs.Ytmeplpiamkaniaa
set_option linter.unusedVariables false
set_option linter.unusedSimpArgs false
open Go.RowKit Go.Sort

/-- what is handed back: a list for which P -/
def RetLats (w : World) (P : List Lt → Prop) (e : Ending) (w' : World) : Prop := ∃ l, P l ∧ RetL w l e w'
set_option linter.unusedSimpArgs false in
set_option maxHeartbeats 8000000 in
set_option maxRecDepth 100000 in
theorem gLater_c (X : Nat → Prop) (g : Nat) (fs : List Fl) (A : Option Addr) (n c : Nat) (S0 : List Lt) (w : World) (h : GraphAt w X g fs) (hA : LotsAt w A n c S0) (hSm : Sm fs) :
    Calls Try.prog 14 #[.pointer (some ⟨g, 0, none⟩), .slice A n c] w (RetLats w (LaterOf fs S0)) := by
  have HV := Lib.hid (valid_c A n c S0 w hA)
  have HEV := Lib.hid (fun W (hE : E w W) => gEvery_c X g fs A n c S0 W (h.e hE) (hA.e hE))
  obtain ⟨P, hP⟩ : ∃ P : List Lt → Prop, LaterOf fs S0 = P := ⟨_, rfl⟩
  have HP := Lib.hid hP
  rw [hP]
  obtain ⟨v1, hv1⟩ : ∃ v, validB S0 = v := ⟨_, rfl⟩
  obtain ⟨v2, hv2⟩ : ∃ v, S0.all (hasF fs) = v := ⟨_, rfl⟩
  rw [hv1] at HV
  simp only [hv2] at HEV
  have HV1 := Lib.hid hv1
  have HV2 := Lib.hid hv2
  have HOK := Lib.hid h.ok
  have HWF := Lib.hid h.wfs
  have HSM := Lib.hid hSm
  have HA := Lib.hid hA
  obtain ⟨p, hG⟩ := h
  have HG := Lib.hid hG
  clear hP hv1 hv2 hA hSm hG
  have hnone : v1 = false ∨ v2 = false → P [] := fun ho => by
    rw [← HP.out]
    refine .inr ⟨fun hc => ?_, rfl⟩
    rcases ho with ho | ho
    · rw [hc.1] at HV1; rw [ho] at HV1; cases HV1.out
    · have : S0.all (hasF fs) = true := by rw [List.all_eq_true]; exact hc.2
      rw [this] at HV2; rw [ho] at HV2; cases HV2.out
  have HNO := Lib.hid hnone
  clear hnone
  cases v1
  · go_enter Try.func14, Try.ntmps14
    go_wp2_with (first | (go_at_call 44; refine HV.out.mono ?_; rintro e w1 ⟨rfl, hE1⟩))
    go_ret
    exact ⟨[], HNO.out (by simp), none, 0, 0, rfl, OwnL.nil _ _, hE1⟩
  · cases v2
    · go_enter Try.func14, Try.ntmps14
      go_wp2_with (first | (go_at_call 44; refine HV.out.mono ?_; rintro e w1 ⟨rfl, hE1⟩) | (go_at_call 45; refine (HEV.out _ hE1).mono ?_; rintro e w2 ⟨rfl, hE2⟩))
      go_ret
      exact ⟨[], HNO.out (by simp), none, 0, 0, rfl, OwnL.nil _ _, hE1.trans hE2⟩
    · clear HNO
      go_enter Try.func14, Try.ntmps14
      go_upto_region 3 with (first | (go_at_call 44; refine HV.out.mono ?_; rintro e w1 ⟨rfl, hE1⟩) | (go_at_call 45; refine (HEV.out _ hE1).mono ?_; rintro e w2 ⟨rfl, hE2⟩))
      have hE12 := hE1.trans hE2
      obtain ⟨M, hM⟩ : ∃ M, w2.alloc (.map #[] 0) = M := ⟨_, rfl⟩
      have hEM : E w2 M := by rw [← hM]; exact (E.refl w2).alloc _
      have hFM : FamL M w2.heap.size w2.heap.size 0 (fun _ => none) (fun _ => True) (fun _ => noR) (fun _ => False) := by
        rw [← hM]; exact FamL.made w2 (fun _ => True) (fun _ => False) (Nat.le_refl _) (fun e => e)
      have hallp : ∀ x ∈ S0, possB x = true := (validB_iff.1 HV1.out).2
      have hallh : ∀ x ∈ S0, hasF fs x = true := List.all_eq_true.1 HV2.out
      have hn46 : n ≤ 4096 := by have h1 := (validB_iff.1 HV1.out).1; have h2 := HA.out.len; omega
      have HSE := Lib.hid (spSet_c A n c S0 M (HA.out.e (hE12.trans hEM)) hallp (by omega))
      obtain ⟨hTc, hTl, hTp⟩ := setS_facts hallp
      have HTL := Lib.hid (show (setS S0).length ≤ 4096 by have := HA.out.len; omega)
      have HTW := Lib.hid (show LaSt fs p.ord (fun u => u ∈ U S0) 0 (fun i => (setS S0).filter fun x => x.1 == i) from LaSt.begin hTc (fun u => mem_setS.symm) p.ord)
      have HIN := Lib.hid (show ∀ u, u ∈ U S0 → InG fs u from fun u hu => by obtain ⟨x, hx, hu⟩ := mem_U.1 hu; exact hasF_units (hallh x hx) u hu)
      have HAL := Lib.hid hallh
      have HG2 := Lib.hid (HG.out.e hE12)
      have HE2 := Lib.hid hE12
      have HEM := Lib.hid hEM
      have hmm := run_makeMap (P := Try.prog) 80 w2
      clear hE1 hE2 hE12 hEM hTc hTl hTp hallp hallh hn46
      go_upto_region 4 with fail
      try rw [hM]
      clear hM hmm
      obtain ⟨T, hT⟩ : ∃ T, setS S0 = T := ⟨_, rfl⟩
      rw [hT] at HSE HTL HTW
      obtain ⟨mb, hmb⟩ : ∃ mb, w2.heap.size = mb := ⟨_, rfl⟩
      obtain ⟨B, hB⟩ : ∃ B, w2.heap.size = B := ⟨_, rfl⟩
      have HBE := Lib.hid hB
      have hI0 : LaM B w2 M (fun i => (T.take 0).filter fun x => x.1 == i) mb 0 (fun _ => none) (fun _ => noR) (fun _ => False) :=
        ⟨HEM.out, hB.symm, by rw [← hmb, ← hB]; exact hFM, fun i => by simp [noR]⟩
      have HI0 := Lib.hid hI0
      rw [hmb]
      clear hT hmb hB hI0 hFM
      go_wp2_with (go_at_call 47; refine HSE.out.mono ?_; rintro e w4 ⟨A33, n33, c33, rfl, hO33, hE4⟩)
      obtain ⟨Z1, hZ1⟩ : ∃ Z1 : Nat → Prop, (fun b => ob A33 = some b) = Z1 := ⟨_, rfl⟩
      have HZ1 := Lib.hid (fun j => show Z1 j ↔ ob A33 = some j by rw [← hZ1])
      have HI4 := Lib.hid ((HI0.out.z (Z' := fun j => M.heap.size ≤ j) (fun j hj => .inr hj)).e_ hE4 |>.z (Z' := Z1) (fun j hj => .inl (hO33.ltN j ((HZ1.out j).1 hj)).1))
      have HO33 := Lib.hid hO33
      have HL33 := Lib.hid hO33.1
      have hn63 := hO33.reads.n63
      have HB4 := Lib.hid (show B ≤ w4.heap.size by have := HBE.out; have := HEM.out.le; have := hE4.le; omega)
      clear hZ1 hO33 hE4
      clear HI0
      go_loopw [35] (fun ti wr => ∃ (a : Nat) (f : Int → Option Value) (F : Int → LR), a ≤ n33 ∧ ti = .int .i64 a ∧ LaM B w2 wr (fun i => (T.take a).filter fun x => x.1 == i) mb a f F Z1 ∧ Ex (fun j => B ≤ j ∧ ¬ Z1 j) w4 wr) (fun ti _ => n33 - (intOf ti).toNat)
      case atStart => exact ⟨0, _, _, Nat.zero_le _, rfl, HI4.out, Ex.refl _ _⟩
      case round =>
        clear HI4
        obtain ⟨a, f, F, ha, rfl, hI, hX⟩ := hrel
        by_cases hal : a < n33
        · obtain ⟨b5, o5, y, hA33, hb5, hyT, hwy, d0, d1, d2⟩ := ((HO33.out.ex hX (fun b hb h => h.2 ((HZ1.out b).2 hb))).reads).get hal
          have haI : (a : Int) < (n33 : Int) := by omega
          rw [hA33]
          obtain ⟨V, hV⟩ : ∃ V, wr.alloc (.cells #[.int .i64 y.1, .int .i64 y.2.1, .int .i64 y.2.2] 32) = V := ⟨_, rfl⟩
          have hEV : E wr V := by rw [← hV]; exact (E.refl wr).alloc _
          have hx3 := cells3_new wr (.int .i64 y.1) (.int .i64 y.2.1) (.int .i64 y.2.2) 32
          rw [hV] at hx3
          have hzV : wr.heap.size < V.heap.size := by rw [← hV]; simp
          obtain ⟨V3, hV3⟩ : ∃ V3, V.drew.alloc (.cells #[.int .i64 y.1, .int .i64 y.2.1, .int .i64 y.2.2] 32) = V3 := ⟨_, rfl⟩
          have hE3 : E V V3 := by rw [← hV3]; exact ((E.refl V).drew).alloc _
          have hL3 : LotsAt V3 (some ⟨V.heap.size, 0, none⟩) 1 1 [y] := by
            have := lots_box (w := V.drew) hwy
            rw [hV3] at this
            exact this
          have hIV := (hI.z (Z' := fun j => Z1 j ∨ j = wr.heap.size) (fun j hj => hj.imp id (fun e => by omega))).e_ hEV
          have hTlen : ((T.take a).filter fun x => x.1 == y.1).length ≤ 1000000 := by
            have h1 := List.length_filter_le (fun x : Lt => x.1 == y.1) (T.take a)
            rw [List.length_take] at h1
            have h2 := HTL.out
            omega
          obtain ⟨rA, rn, rc, A9, c9, W1, W2, hlkf, hrun, hrun2, ⟨f9, F9, hI9⟩, hX8, hX9⟩ := hIV.add hwy hTlen (by have h1 := HTL.out; have h2 := HL33.out; omega) hE3 (fun hz => by
            have h1 := hE3.le
            rcases hz with hz | hz
            · have h2 := (HO33.out.ltN _ ((HZ1.out _).1 hz)).2
              have h3 := hX.size
              omega
            · omega) (some ⟨V.heap.size, 0, none⟩) 1 hL3 29
          have hS : ∀ W, Ex (fun j => B ≤ j ∧ ¬ (Z1 j ∨ j = wr.heap.size)) V W → W.cell? ⟨wr.heap.size, 0, none⟩ = some (.int .i64 y.1) ∧ W.cell? ⟨wr.heap.size, 1, none⟩ = some (.int .i64 y.2.1) ∧ W.cell? ⟨wr.heap.size, 2, none⟩ = some (.int .i64 y.2.2) := fun W hW =>
            ⟨(hW.cell (p := ⟨wr.heap.size, 0, none⟩) hzV (fun h => h.2 (.inr rfl))).trans hx3.1, (hW.cell (p := ⟨wr.heap.size, 1, none⟩) hzV (fun h => h.2 (.inr rfl))).trans hx3.2.1, (hW.cell (p := ⟨wr.heap.size, 2, none⟩) hzV (fun h => h.2 (.inr rfl))).trans hx3.2.2⟩
          have s0 := hS _ (Ex.of_e (E.refl V).drew)
          have s3 := hS _ (Ex.of_e hE3)
          have s8 := hS _ hX8
          have s9 := hS _ hX9
          have hlka := hlkf _ (E.refl V).drew
          have hlkb := hlkf _ hE3
          rw [filt_next hyT] at hI9
          have HI9 := Lib.hid (hI9.z (Z' := Z1) (fun j hj => .inl (.inl hj)))
          have HX9 := Lib.hid (show Ex (fun j => B ≤ j ∧ ¬ Z1 j) w4 W2 from (hX.trans (Ex.of_e (X := fun _ => False) hEV) (fun _ _ h => h) (fun _ _ h => h.elim)).trans hX9 (fun _ _ h => h) (fun j _ h => ⟨h.1, fun hz => h.2 (.inl hz)⟩))
          have HAL2 := Lib.hid hal
          clear hlkf hI9 hX8 hX9 hL3 hE3 hS hIV hX hI hyT hwy hal hA33 hTlen hzV hEV
          obtain ⟨e0, e1, e2⟩ := hx3
          go_upto_region 7 with fail
          try rw [hV]
          clear hV d0 d1 d2 e0 e1 e2
          refine wp_region_held_drew (S := (fun W => W.cell? ⟨wr.heap.size, 0, none⟩ = some (.int .i64 y.1) ∧ W.cell? ⟨wr.heap.size, 1, none⟩ = some (.int .i64 y.2.1) ∧ W.cell? ⟨wr.heap.size, 2, none⟩ = some (.int .i64 y.2.2))) (by kernel_rfl) s0 (fun hHeld => ?_)
          (((refine wpAnyH_take (i := 0) (v := ?_) rfl (by kernel_rfl) (by kernel_rfl) (by kernel_rfl) (fun _ _ _ h => h) (Or.inl ⟨by kernel_rfl, ?_⟩) (by assumption) ?_); rotate_left 1; (focus (intro w hSw; (try dsimp only at hSw); go_simp; (try with_reducible rfl))); (try simp only [Act.put, List.setIfInBounds_toArray, List.set_cons_zero, List.set_cons_succ])); ((refine wpAnyH_take (i := 1) (v := ?_) rfl (by kernel_rfl) (by kernel_rfl) (by kernel_rfl) (fun _ _ _ h => h) (Or.inl ⟨by kernel_rfl, ?_⟩) (by assumption) ?_); rotate_left 1; (focus (intro w hSw; (try dsimp only at hSw); go_simp; (try with_reducible rfl))); (try simp only [Act.put, List.setIfInBounds_toArray, List.set_cons_zero, List.set_cons_succ])); ((refine wpAnyH_take (i := 2) (v := ?_) rfl (by kernel_rfl) (by kernel_rfl) (by kernel_rfl) (fun _ _ _ h => h) (Or.inl ⟨by kernel_rfl, ?_⟩) (by assumption) ?_); rotate_left 1; (focus (intro w hSw; (try dsimp only at hSw); go_simp; (try with_reducible rfl))); (try simp only [Act.put, List.setIfInBounds_toArray, List.set_cons_zero, List.set_cons_succ])); ((refine wpAnyH_take (i := 3) (v := ?_) rfl (by kernel_rfl) (by kernel_rfl) (by kernel_rfl) (fun _ _ _ h => h) (Or.inl ⟨by kernel_rfl, ?_⟩) (by assumption) ?_); rotate_left 1; (focus (intro w hSw; (try dsimp only at hSw); go_simp; (try with_reducible rfl))); (try simp only [Act.put, List.setIfInBounds_toArray, List.set_cons_zero, List.set_cons_succ])); ((refine wpAnyH_take (i := 4) (v := ?_) rfl (by kernel_rfl) (by kernel_rfl) (by kernel_rfl) (fun _ _ _ h => h) (Or.inl ⟨by kernel_rfl, ?_⟩) (by assumption) ?_); rotate_left 1; (focus (intro w hSw; (try dsimp only at hSw); go_simp; (try with_reducible rfl))); (try simp only [Act.put, List.setIfInBounds_toArray, List.set_cons_zero, List.set_cons_succ])); ((refine wpAnyH_take (i := 5) (v := ?_) rfl (by kernel_rfl) (by kernel_rfl) (by kernel_rfl) (fun _ _ _ h => h) (Or.inl ⟨by kernel_rfl, ?_⟩) (by assumption) ?_); rotate_left 1; (focus (intro w hSw; (try dsimp only at hSw); go_simp; (try with_reducible rfl))); (try simp only [Act.put, List.setIfInBounds_toArray, List.set_cons_zero, List.set_cons_succ])); ((refine wpAnyH_take (i := 7) (v := ?_) rfl (by kernel_rfl) (by kernel_rfl) (by kernel_rfl) (fun _ _ _ h => h) (Or.inl ⟨by kernel_rfl, ?_⟩) (by assumption) ?_); rotate_left 1; (focus (intro w hSw; (try dsimp only at hSw); go_simp; (try with_reducible rfl))); (try simp only [Act.put, List.setIfInBounds_toArray, List.set_cons_zero, List.set_cons_succ])))
          clear hHeld
          refine wpAnyH_ready (rs := [6, 8]) (by kernel_rfl) (by simp) ?_
          refine AllReadyH.cons rfl (fun K hK => ?_) (AllReadyH.cons rfl (fun K hK => ?_) AllReadyH.nil)
          · rw [if_pos (by kernel_rfl)]
            go_simp
            refine hK _ _ s0 (fun hh => ?_)
            clear hK K hh
            (try simp only [Act.put, List.setIfInBounds_toArray, List.set_cons_zero, List.set_cons_succ])
            (((refine wpAnyH_ready (rs := [8]) (by kernel_rfl) (by simp) ?_); (refine AllReadyH.cons rfl (fun K hK => ?_) AllReadyH.nil); (rw [if_pos (by kernel_rfl)]); go_simp))
            (try rw [hV3])
            refine hK _ _ s3 (fun hh => ?_)
            clear hK K hh
            (try simp only [Act.put, List.setIfInBounds_toArray, List.set_cons_zero, List.set_cons_succ])
            refine wpAnyH_ready (rs := [9]) (by kernel_rfl) (by simp) ?_
            refine AllReadyH.cons rfl (fun K hK => ?_) AllReadyH.nil
            refine step_app_runQ (by rfl) _ _ (by rfl) (by rfl) (by rfl) hrun ?_
            refine hK _ _ s8 (fun hh => ?_)
            clear hK K
            (try simp only [Act.put, List.setIfInBounds_toArray, List.set_cons_zero, List.set_cons_succ])
            (((refine wpAnyH_ready (rs := [10]) (by kernel_rfl) (by simp) ?_); (refine AllReadyH.cons rfl (fun K hK => ?_) AllReadyH.nil); (rw [if_pos (by kernel_rfl)]); go_simp))
            refine hK _ _ s9 (fun hh2 => ?_)
            clear hK K hh hh2
            (try simp only [Act.put, List.setIfInBounds_toArray, List.set_cons_zero, List.set_cons_succ])
            refine wpAnyH_done (by kernel_rfl) ?_ _
            go_simp
            clear s0 s3 s8 s9 hlka hlkb hrun hrun2
            go_wp2_with fail
            have hal := HAL2.out
            go_roundw
            case rel => exact ⟨a + 1, f9, F9, by omega, by go_num, HI9.out, HX9.out⟩
            case measure => simp [intOf]; omega
          · rw [if_pos (by kernel_rfl)]
            go_simp
            (try rw [hV3])
            refine hK _ _ s3 (fun hh => ?_)
            clear hK K hh
            (try simp only [Act.put, List.setIfInBounds_toArray, List.set_cons_zero, List.set_cons_succ])
            (((refine wpAnyH_ready (rs := [6]) (by kernel_rfl) (by simp) ?_); (refine AllReadyH.cons rfl (fun K hK => ?_) AllReadyH.nil); (rw [if_pos (by kernel_rfl)]); go_simp))
            refine hK _ _ s3 (fun hh => ?_)
            clear hK K hh
            (try simp only [Act.put, List.setIfInBounds_toArray, List.set_cons_zero, List.set_cons_succ])
            refine wpAnyH_ready (rs := [9]) (by kernel_rfl) (by simp) ?_
            refine AllReadyH.cons rfl (fun K hK => ?_) AllReadyH.nil
            refine step_app_runQ (by rfl) _ _ (by rfl) (by rfl) (by rfl) hrun ?_
            refine hK _ _ s8 (fun hh => ?_)
            clear hK K
            (try simp only [Act.put, List.setIfInBounds_toArray, List.set_cons_zero, List.set_cons_succ])
            (((refine wpAnyH_ready (rs := [10]) (by kernel_rfl) (by simp) ?_); (refine AllReadyH.cons rfl (fun K hK => ?_) AllReadyH.nil); (rw [if_pos (by kernel_rfl)]); go_simp))
            refine hK _ _ s9 (fun hh2 => ?_)
            clear hK K hh hh2
            (try simp only [Act.put, List.setIfInBounds_toArray, List.set_cons_zero, List.set_cons_succ])
            refine wpAnyH_done (by kernel_rfl) ?_ _
            go_simp
            clear s0 s3 s8 s9 hlka hlkb hrun hrun2
            go_wp2_with fail
            have hal := HAL2.out
            go_roundw
            case rel => exact ⟨a + 1, f9, F9, by omega, by go_num, HI9.out, HX9.out⟩
            case measure => simp [intOf]; omega
        · have hI2 : LaM B w2 wr (fun i => T.filter fun x => x.1 == i) mb a f F (fun _ => False) := by
            rw [List.take_of_length_le (l := T) (by have := HL33.out; omega)] at hI
            exact hI.z (fun j hj => hj.elim)
          have HI2 := Lib.hid hI2
          have HKA := Lib.hid (show a ≤ 4096 by have h1 := HTL.out; have h2 := HL33.out; omega)
          have hge : ¬ ((a : Int) < (n33 : Int)) := by omega
          have c3 := (HG2.out.e hI2.e).blk.cells.2.2.2.1
          have hgn := HG2.out.flows.n63
          clear hI hX hal hI2 ha
          go_wp2_with fail
          clear c3 hge
          go_loopw [55] (fun ti wr => ∃ (k km : Nat) (f : Int → Option Value) (F : Int → LR) (G : Int → List Lt), k ≤ fs.length ∧ ti = .int .i64 k ∧ LaM B w2 wr G mb km f F (fun _ => False) ∧ LaSt fs p.ord (fun u => u ∈ U S0) k G ∧ km ≤ 4096 + k) (fun ti _ => fs.length - (intOf ti).toNat)
          case atStart => exact ⟨0, a, f, F, _, Nat.zero_le _, rfl, HI2.out, HTW.out, by have := HKA.out; omega⟩
          case round =>
            clear HI2
            obtain ⟨k, km, f, F, G, hk, rfl, hI, hL, hkm⟩ := hrel
            have hlo : p.ord.length = fs.length := HG2.out.topo.ln
            by_cases hkl : k < fs.length
            · have hkI : (k : Int) < (fs.length : Int) := by omega
              obtain ⟨pl, hpl⟩ : ∃ pl, p.ord[k]? = some pl := ⟨_, List.getElem?_eq_getElem (by omega)⟩
              have hpln := HG2.out.topo.lt pl (List.mem_of_getElem? hpl)
              have hplI : (pl : Int) < (fs.length : Int) := by omega
              have hGr := HG2.out.e hI.e
              have hgc := hGr.blk.cells
              obtain ⟨go, xo, hAo, _, _, hxo, hwo, co, _⟩ := hGr.od.get (i := k) hkl
              rw [ints_get, hpl] at hxo
              injection hxo with hxo
              subst hxo
              have c0 := hgc.1
              obtain ⟨gf, hAe⟩ : ∃ gf, p.Af = some ⟨gf, 0, none⟩ := by
                rcases HG2.out.fl.form with ⟨_, h0, _⟩ | ⟨gf, h0, _⟩
                · omega
                · exact ⟨gf, h0⟩
              obtain ⟨⟨fl, s, t⟩, hp0⟩ : ∃ p0, p.qf[pl]? = some p0 := ⟨_, List.getElem?_eq_getElem (by rw [HG2.out.fl.1]; exact hpln)⟩
              have hfl : fs[pl]? = some fl := by rw [← HG2.out.flv, List.getElem?_map, hp0]; rfl
              have hfb := (HG2.out.fl.2.2 _ (List.mem_of_getElem? hp0)).2.1
              have hwfl := (HG2.out.fl.2.2 _ (List.mem_of_getElem? hp0)).1
              have hcl : FlCells wr gf (pl * 11) fl s t := by
                have h1 := HG2.out.fl.e hI.e
                rw [hAe] at h1
                exact h1.cells hp0
              (try simp only at hfb hwfl)
              rw [hAe] at c0
              obtain ⟨V, hV⟩ : ∃ V, wr.alloc (.cells #[.int .i64 fl.id, .int .i64 fl.step, .int .i64 fl.kind, .int .i64 fl.tick, .int .i64 fl.actor, .int .i64 fl.frm, .int .i64 fl.to, .int .i64 fl.item, .int .i64 fl.n, .slice s.1 s.2.1 s.2.2, .slice t.1 t.2.1 t.2.2] 47) = V := ⟨_, rfl⟩
              have hEV : E wr V := by rw [← hV]; exact (E.refl _).alloc _
              have hBX : FlBox V wr.heap.size fl s t := by rw [← hV]; exact FlBox.new wr fl s t
              obtain ⟨bx, hbx⟩ : ∃ bx, wr.heap.size = bx := ⟨_, rfl⟩
              rw [hbx] at hBX
              obtain ⟨⟨rl, rA, rn, rc⟩, hFp⟩ : ∃ r, F fl.id = r := ⟨_, rfl⟩
              have hpG : ∀ i, ∀ y ∈ G i, possB y = true := fun i y hy => (pos_units HOK.out (hL.can i).pos (fun u hu => (hL.snd _ u hu).inG HOK.out HIN.out) y hy).1
              have hLF : LaF B w2 V G fl.id mb km f F (fun j => j = bx) (F fl.id).2.1 (F fl.id).2.2.1 (F fl.id).2.2.2 (G fl.id) := (hI.out fl.id (Z := fun j => j = bx) (fun j hj => by omega) (hpG fl.id)).e_ hEV
              have hlk := (hI.fam.e hEV).look (i := fl.id) trivial hwfl.1
              rw [hFp] at hLF hlk
              simp only [slV] at hLF hlk
              have hrn : rn ≤ 5000 := by
                have h1 := hL.row_len HOK.out HIN.out fl.id
                have h2 := hLF.own.1
                have h3 := HSM.out.u
                omega
              have hs63 := hfb.1.n63
              have HAO := Lib.hid hAo
              have HL := Lib.hid hL
              have HPG := Lib.hid hpG
              have HPL := Lib.hid hpl
              have HPN := Lib.hid hpln
              have HFL := Lib.hid hfl
              have HFB := Lib.hid hfb
              have HWFL := Lib.hid hwfl
              have HBXE := Lib.hid hbx
              have HBX := Lib.hid hBX
              have HLF := Lib.hid hLF
              have HRN := Lib.hid hrn
              have HMB := Lib.hid (show mb < bx by have := hI.fam.map.lt; omega)
              have HBB := Lib.hid (show B ≤ bx by have h1 := hI.e.le; have h2 := HBE.out; omega)
              have HKM := Lib.hid hkm
              have HLO := Lib.hid hlo
              have HKL := Lib.hid hkl
              unfold FlCells at hcl
              obtain ⟨x0, x1, x2, x3, x4, x5, x6, x7, x8, x9, x10⟩ := hcl
              clear hI hL hpl hpln hGr hgc hwo hp0 hfl hfb hwfl hEV hBX hbx hFp hpG hLF hrn hkm hlo hkl hAe
              rw [hAo]
              go_upto_region 13 with fail
              try rw [hV]
              rw [HBXE.out]
              clear hV x0 x1 x2 x3 x4 x5 x6 x7 x8 x9 x10 co c0
              obtain ⟨b0, _, _, _, _, _, _, _, _, b9, _⟩ := HBX.out.cells
              simp only [Nat.zero_add] at b9
              go_wp2_with fail
              clear b0 b9 hlk
              go_loopw [11, 73] (fun t11 ti wr => ∃ (i : Nat) (A' : Option Addr) (n' c' : Nat) (l : List Lt), t11 = .slice A' n' c' ∧ ti = .int .i64 i ∧ i ≤ s.2.1 ∧ LaF B w2 wr G fl.id mb km f F (fun j => j = bx) A' n' c' l ∧ FInv fs (fun u => u ∈ U S0) fl i l ∧ ((n' : Int) ≤ 5000 + totL (fl.parts.take i)) ∧ Ex (fun j => B ≤ j ∧ j ≠ bx) V wr) (fun _ ti _ => s.2.1 - (intOf ti).toNat)
              case atStart => exact ⟨0, rA, rn, rc, _, rfl, rfl, Nat.zero_le _, HLF.out, HL.out.first, by have := HRN.out; rw [List.take_zero, totL_nil]; omega, Ex.refl _ _⟩
              case round =>
                clear HLF HRN
                obtain ⟨i, A', n', c', l, rfl, rfl, hi, hF, hIV, hnn, hX⟩ := hrel
                have hokf := okF_iff.1 (HOK.out.ok fl (List.mem_of_getElem? HFL.out))
                have hpp : ∀ y ∈ fl.parts, possB y = true := (validB_iff.1 hokf.1).2
                have htot : ∀ m, 0 ≤ totL (fl.parts.take m) ∧ totL (fl.parts.take m) ≤ 5000 := fun m => by
                  have h1 := totL_le_take (l := fl.parts) (fun y hy => by have := possB_iff.1 (hpp y hy); omega) m
                  have h2 := cntU_n (List.mem_of_getElem? HFL.out)
                  have h3 := HSM.out.u
                  rcases hokf.2.2.2.2.2 with h4 | h4
                  · rw [h4] at h1 ⊢; simp [totL_nil]
                  · omega
                by_cases hil : i < s.2.1
                · obtain ⟨b5, o5, x, hse, hb5, hxi, hwx, d0, d1, d2⟩ := ((HFB.out.e hF.e).1).get hil
                  have hiI : (i : Int) < (s.2.1 : Int) := by omega
                  rw [hse]
                  have hxr : x.1 ∈ refsF fl := List.mem_append_left _ (List.mem_map.2 ⟨x, List.mem_of_getElem? hxi, rfl⟩)
                  have hne : x.1 ≠ fl.id := by
                    obtain ⟨rk, hrk⟩ := HOK.out.rk
                    intro e
                    have := hrk fl (List.mem_of_getElem? HFL.out) x.1 hxr
                    rw [e] at this
                    omega
                  have hpx := possB_iff.1 (hpp x (List.mem_of_getElem? hxi))
                  obtain ⟨V5, hV5⟩ : ∃ V5, wr.alloc (.cells #[.int .i64 x.1, .int .i64 x.2.1, .int .i64 x.2.2] 32) = V5 := ⟨_, rfl⟩
                  have hE5 : E wr V5 := by rw [← hV5]; exact (E.refl wr).alloc _
                  have hx35 := cells3_new wr (.int .i64 x.1) (.int .i64 x.2.1) (.int .i64 x.2.2) 32
                  rw [hV5] at hx35
                  have hz5 : wr.heap.size < V5.heap.size := by rw [← hV5]; simp
                  obtain ⟨⟨yl, yA, yn, yc⟩, hFy⟩ : ∃ r, F x.1 = r := ⟨_, rfl⟩
                  have hlk := (hF.fam.e hE5).look hne hwx.1
                  rw [hFy] at hlk
                  simp only [slV] at hlk
                  have hyO : OwnL wr B yA yn yc (G x.1) := by
                    have h1 := hF.fam.rows x.1 hne
                    have h2 := hF.vals x.1
                    rw [h2, hFy] at h1
                    exact h1
                  have hyn63 := hyO.reads.n63
                  have htk : totL (fl.parts.take (i + 1)) = totL (fl.parts.take i) + x.2.2 := totL_succ hxi
                  have HX5 := Lib.hid (show Ex (fun j => B ≤ j ∧ j ≠ bx) V V5 from hX.trans (Ex.of_e (X := fun _ => False) hE5) (fun _ _ h => h) (fun _ _ h => h.elim))
                  by_cases h0 : yn = 0
                  · subst h0
                    have hG0 : G x.1 = [] := List.eq_nil_of_length_eq_zero hyO.1
                    have HF1 := Lib.hid (hF.e_ hE5)
                    have HIV1 := Lib.hid (HL.out.none_ HOK.out HG2.out.topo HPL.out HFL.out hxi hIV hG0)
                    have HNN := Lib.hid (show (n' : Int) ≤ 5000 + totL (fl.parts.take (i + 1)) by omega)
                    have HIL := Lib.hid hil
                    obtain ⟨e0, e1, e2⟩ := hx35
                    clear hF hIV hnn hX hokf hpp htot hxi hxr hne hpx hyO hyn63 htk hG0 hFy hil hE5 hz5 hi hse
                    go_upto_region 17 with fail
                    try rw [hV5]
                    clear hV5 d0 d1 d2
                    go_wp2_with fail
                    have hil := HIL.out
                    go_roundw
                    case rel => exact ⟨i + 1, A', n', c', l, rfl, by go_num, by omega, HF1.out, HIV1.out, HNN.out, HX5.out⟩
                    case measure => simp [intOf]; omega
                  · have dn : ((yn : Int) == 0) = false := by simp; omega
                    have hL6' : LotsAt (V5.alloc (.cells #[.int .i64 x.1, .int .i64 x.2.1, .int .i64 x.2.2] 32)) (some ⟨V5.heap.size, 0, none⟩) 1 1 [x] := lots_box hwx
                    obtain ⟨V6, hV6⟩ : ∃ V6, V5.alloc (.cells #[.int .i64 x.1, .int .i64 x.2.1, .int .i64 x.2.2] 32) = V6 := ⟨_, rfl⟩
                    rw [hV6] at hL6'
                    have hE6 : E V5 V6 := by rw [← hV6]; exact (E.refl V5).alloc _
                    have hyn : yn ≤ 5000 := by
                      have h1 := HL.out.row_len HOK.out HIN.out x.1
                      have h2 := hyO.1
                      have h3 := HSM.out.u
                      omega
                    have HDV := Lib.hid (spDivide_c V6 (some ⟨V5.heap.size, 0, none⟩) 1 1 [x] yA yn yc (G x.1) hL6' (hyO.reads.e (hE5.trans hE6)) (fun z hz => by rw [List.mem_singleton] at hz; subst hz; exact hpp _ (List.mem_of_getElem? hxi)) (HPG.out x.1) (HL.out.can x.1) (by omega) (by omega))
                    have HIVP := Lib.hid (HL.out.piece HOK.out HG2.out.topo HPL.out HFL.out hxi hIV)
                    obtain ⟨ins, hins⟩ : ∃ ins, glue (inU (G x.1) (U [x])) = ins := ⟨_, rfl⟩
                    have hi1 : ∀ y ∈ ins, 1 ≤ y.2.2 := by rw [← hins]; exact (glue_glued _).mem
                    have hil2 : ins.length ≤ x.2.2.toNat := by rw [← hins]; exact ins_len _ _
                    rw [hins] at HDV HIVP
                    have HPP := Lib.hid (piece_poss HOK.out HIN.out HIVP.out hi1)
                    have HPX := Lib.hid hpx
                    have HTK := Lib.hid htk
                    have HTOT := Lib.hid htot
                    have HIL2 := Lib.hid hil2
                    have HNN := Lib.hid hnn
                    have HF := Lib.hid hF
                    have HE5 := Lib.hid hE5
                    have HE6 := Lib.hid hE6
                    have HX35 := Lib.hid hx35
                    have HZ5 := Lib.hid hz5
                    have HIL := Lib.hid hil
                    have HIV := Lib.hid hIV
                    have HXI := Lib.hid hxi
                    have hlkV := hlk
                    obtain ⟨e0, e1, e2⟩ := hx35
                    clear hF hIV hnn hX hokf hpp htot hxi hxr hne hpx hyO hyn htk hFy hil hE5 hz5 hi hse hL6' hE6 hi1 hil2 hins h0
                    go_upto_region 17 with fail
                    try rw [hV5]
                    clear hV5 d0 d1 d2
                    go_wp2_with (go_at_call 48; (try rw [hV6]); refine HDV.out.mono ?_; rintro e w19 ⟨A1, n1, c1, A2, n2, c2, rfl, hO1, hO2, _, hp1, hp2, hE19⟩)
                    clear e0 e1 e2 hlk hlkV
                    have hE69 : E V6 w19 := hE19.e (fun _ h => h.elim)
                    have hE59 : E V5 w19 := HE6.out.trans hE69
                    obtain ⟨Z4, hZ4⟩ : ∃ Z4 : Nat → Prop, (fun j => j = bx ∨ (wr.heap.size ≤ j ∧ j < w19.heap.size)) = Z4 := ⟨_, rfl⟩
                    have HZ4 := Lib.hid (fun j => show Z4 j ↔ (j = bx ∨ (wr.heap.size ≤ j ∧ j < w19.heap.size)) by rw [← hZ4])
                    have hF4 : LaF B w2 w19 G fl.id mb km f F Z4 A' (n' + 0) c' (l ++ (ins.take 0).map (shL fl.id (totL (fl.parts.take i)) x)) := by
                      have h1 := (HF.out.z (Z' := fun j => j = bx ∨ wr.heap.size ≤ j) (fun j hj => hj)).e_ (HE5.out.trans hE59)
                      have h2 := h1.z (Z' := Z4) (fun j hj => .inl (((HZ4.out j).1 hj).imp id (fun h => h.1)))
                      simpa using h2
                    have HF4 := Lib.hid hF4
                    have HO1 := Lib.hid hO1
                    have HL1 := Lib.hid hO1.1
                    have hn63 := hO1.reads.n63
                    have HZS := Lib.hid (fun b (hb : ob A1 = some b) => show Z4 b from (HZ4.out b).2 (.inr ⟨by have h1 := (hO1.ltN b hb).1; have h2 := HE5.out.le; have h3 := HE6.out.le; omega, (hO1.ltN b hb).2⟩))
                    have HP1 := Lib.hid hp1
                    have HB19 := Lib.hid (show FlBox w19 bx fl s t from (HBX.out.ex HX5.out (fun h => h.2 rfl)).e hE59)
                    have HX19 := Lib.hid (show w19.cell? ⟨wr.heap.size, 1, none⟩ = some (.int .i64 x.2.1) from (hE59.cell (p := ⟨wr.heap.size, 1, none⟩) HZ5.out).trans HX35.out.2.1)
                    have HZP := Lib.hid (show wr.heap.size < w19.heap.size by have h1 := HZ5.out; have h2 := hE59.le; omega)
                    have HXV := Lib.hid (show Ex (fun j => B ≤ j ∧ j ≠ bx) V w19 from HX5.out.trans (Ex.of_e (X := fun _ => False) hE59) (fun _ _ h => h) (fun _ _ h => h.elim))
                    obtain ⟨bP, hbP⟩ : ∃ bP, wr.heap.size = bP := ⟨_, rfl⟩
                    have HBP := Lib.hid hbP
                    rw [hbP] at HX19 HZP HZ4
                    rw [hbP]
                    clear hZ4 hF4 hO1 hO2 hp1 hp2 hE19 hE69 hE59 hbP
                    go_loopw [11, 94] (fun t11 ti wr4 => ∃ (j : Nat) (A4 : Option Addr) (c4 : Nat), t11 = .slice A4 (n' + j) c4 ∧ ti = .int .i64 j ∧ j ≤ n1 ∧ LaF B w2 wr4 G fl.id mb km f F Z4 A4 (n' + j) c4 (l ++ (ins.take j).map (shL fl.id (totL (fl.parts.take i)) x)) ∧ Ex (fun j => B ≤ j ∧ ¬ Z4 j) w19 wr4) (fun _ ti _ => n1 - (intOf ti).toNat)
                    case atStart => exact ⟨0, A', c', rfl, rfl, Nat.zero_le _, HF4.out, Ex.refl _ _⟩
                    case round =>
                      clear HF4
                      obtain ⟨j, A4, c4, rfl, rfl, hj, hF4, hX4⟩ := hrel
                      by_cases hjl : j < n1
                      · obtain ⟨b6, o6, y, hA1, hb6, hyi, hwy, d0, d1, d2⟩ := ((HO1.out.ex hX4 (fun b hb h => h.2 (HZS.out b hb))).reads).get hjl
                        have hjI : (j : Int) < (n1 : Int) := by omega
                        rw [hA1]
                        -- the place at which the part begins
                        obtain ⟨b7, o7, st', sA, sn, sc, hSe, hb7, hst, hc7, hN7⟩ := HG2.out.rows.get HPN.out
                        rw [List.getElem?_map, HFL.out] at hst
                        injection hst with hst
                        injection hSe with hSe
                        injection hSe with hS1 hS2
                        subst hS1 hS2
                        have hsn : sn = s.2.1 := by rw [← hN7.len, ← hst, starts_len, HFB.out.1.len]
                        subst hsn
                        obtain ⟨b8, o8, z, hsA, hb8, hz, hwz, hc8⟩ := hN7.get HIL.out
                        rw [← hst, starts_get 0 fl.parts i (by rw [HFB.out.1.len]; exact HIL.out)] at hz
                        injection hz with hz
                        simp only [Int.zero_add] at hz
                        subst hz
                        rw [hsA] at hc7
                        simp only [Nat.zero_add] at hc7
                        obtain ⟨stv, hstv⟩ : ∃ stv, totL (fl.parts.take i) = stv := ⟨_, rfl⟩
                        have hpy := possB_iff.1 (HP1.out y (List.mem_of_getElem? hyi))
                        have hpx := HPX.out
                        have htt := HTOT.out i
                        have hbig := HTOT.out (i + 1)
                        have hpush := HPP.out y (List.mem_of_getElem? hyi)
                        rw [hstv] at hc8 htt hF4 hpush
                        have hw1 : IntKind.i64.wrap (stv + y.2.1) = stv + y.2.1 := by rw [IntKind.wrap_i64]; omega
                        have hw2 : IntKind.i64.wrap (stv + y.2.1 - x.2.1) = stv + y.2.1 - x.2.1 := by rw [IntKind.wrap_i64]; omega
                        obtain ⟨V7, hV7⟩ : ∃ V7, wr.alloc (.cells #[.int .i64 y.1, .int .i64 y.2.1, .int .i64 y.2.2] 32) = V7 := ⟨_, rfl⟩
                        have hE7 : E wr V7 := by rw [← hV7]; exact (E.refl wr).alloc _
                        have hx37 := cells3_new wr (.int .i64 y.1) (.int .i64 y.2.1) (.int .i64 y.2.2) 32
                        rw [hV7] at hx37
                        have hz7 : wr.heap.size < V7.heap.size := by rw [← hV7]; simp
                        obtain ⟨V8, hV8⟩ : ∃ V8, V7.drew.alloc (.cells #[.int .i64 fl.id, .int .i64 (stv + y.2.1 - x.2.1), .int .i64 y.2.2] 32) = V8 := ⟨_, rfl⟩
                        have hE8 : E V7 V8 := by rw [← hV8]; exact ((E.refl V7).drew).alloc _
                        have hws : WfL (shL fl.id stv x y) := wfL_of hpush (wf_i64 HWFL.out.1).2
                        have hL8 : LotsAt V8 (some ⟨V7.heap.size, 0, none⟩) 1 1 [shL fl.id stv x y] := by
                          have := lots_box (w := V7.drew) hws
                          simp only [shL] at this
                          rw [hV8] at this
                          exact this
                        have hF7 := (hF4.z (Z' := fun j => Z4 j ∨ j = wr.heap.size) (fun j hj => hj.imp id (fun e => by omega))).e_ hE7
                        obtain ⟨A5, c5, W1, hrun, hF9, hX9⟩ := hF7.push hpush (by have h1 := HNN.out; have h2 := HL1.out; have h3 := HIL2.out; have h4 := HTK.out; rw [hstv] at h1 h4; omega) hE8 (fun hz => by
                          have h1 := hE8.le
                          have h2 := hX4.size
                          have h4 := HZP.out
                          rcases hz with hz | hz
                          · rcases (HZ4.out _).1 hz with hz | hz
                            · have h3 := HB19.out.lt
                              omega
                            · omega
                          · omega) (some ⟨V7.heap.size, 0, none⟩) 1 hL8 29
                        have hB7 : FlBox V7 bx fl s t := (HB19.out.ex hX4 (fun h => h.2 ((HZ4.out bx).2 (.inl rfl)))).e hE7
                        have hP7 : V7.cell? ⟨bP, 1, none⟩ = some (.int .i64 x.2.1) := by
                          have h1 := (hX4.cell (p := ⟨bP, 1, none⟩) HZP.out (fun h => h.2 ((HZ4.out bP).2 (.inr ⟨Nat.le_refl _, HZP.out⟩)))).trans HX19.out
                          exact (hE7.cell (p := ⟨bP, 1, none⟩) (Nat.lt_of_lt_of_le HZP.out hX4.size)).trans h1
                        have hbP7 : bP < V7.heap.size := Nat.lt_of_lt_of_le HZP.out (Nat.le_trans hX4.size hE7.le)
                        have hS : ∀ W, Ex (fun j => B ≤ j ∧ ¬ (Z4 j ∨ j = wr.heap.size)) V7 W → W.cell? ⟨bx, 0, none⟩ = some (.int .i64 fl.id) ∧ W.cell? ⟨g, 1, none⟩ = some (.slice (some ⟨p.gs, 0, none⟩) fs.length fs.length) ∧ W.cell? ⟨p.gs, pl, none⟩ = some (.slice (some ⟨b8, o8, none⟩) s.2.1 sc) ∧ W.cell? ⟨b8, o8 + i, none⟩ = some (.int .i64 stv) ∧ W.cell? ⟨bP, 1, none⟩ = some (.int .i64 x.2.1) ∧ W.cell? ⟨wr.heap.size, 1, none⟩ = some (.int .i64 y.2.1) ∧ W.cell? ⟨wr.heap.size, 2, none⟩ = some (.int .i64 y.2.2) := fun W hW => by
                          have hEW : E w2 W := e_ex hF7.e hW (fun i hi => by have := HBE.out; omega)
                          refine ⟨?_, (HG2.out.e hEW).blk.cells.2.1, (hEW.cell (p := ⟨p.gs, pl, none⟩) hb7).trans hc7, (hEW.cell (p := ⟨b8, o8 + i, none⟩) hb8).trans hc8, ?_, ?_, ?_⟩
                          · exact (hW.cell (p := ⟨bx, 0, none⟩) hB7.lt (fun h => h.2 (.inl ((HZ4.out bx).2 (.inl rfl))))).trans hB7.cells.1
                          · exact (hW.cell (p := ⟨bP, 1, none⟩) hbP7 (fun h => h.2 (.inl ((HZ4.out bP).2 (.inr ⟨Nat.le_refl _, HZP.out⟩))))).trans hP7
                          · exact (hW.cell (p := ⟨wr.heap.size, 1, none⟩) hz7 (fun h => h.2 (.inr rfl))).trans hx37.2.1
                          · exact (hW.cell (p := ⟨wr.heap.size, 2, none⟩) hz7 (fun h => h.2 (.inr rfl))).trans hx37.2.2
                        have s0 := hS _ (Ex.of_e (E.refl V7).drew)
                        have s8 := hS _ (Ex.of_e hE8)
                        have s9 := hS _ hX9
                        have HF9 := Lib.hid (show LaF B w2 W1 G fl.id mb km f F Z4 A5 (n' + (j + 1)) c5 (l ++ (ins.take (j + 1)).map (shL fl.id (totL (fl.parts.take i)) x)) by
                          have h1 := hF9.z (Z' := Z4) (fun j hj => .inl (.inl hj))
                          rw [take_snoc hyi, List.map_append, ← List.append_assoc, hstv]
                          exact h1)
                        have HX9 := Lib.hid (show Ex (fun j => B ≤ j ∧ ¬ Z4 j) w19 W1 from (hX4.trans (Ex.of_e (X := fun _ => False) hE7) (fun _ _ h => h) (fun _ _ h => h.elim)).trans hX9 (fun _ _ h => h) (fun j _ h => ⟨h.1, fun hz => h.2 (.inl hz)⟩))
                        have HJL := Lib.hid hjl
                        obtain ⟨e0, e1, e2⟩ := hx37
                        have hiI2 : (i : Int) < (s.2.1 : Int) := by have := HIL.out; omega
                        have hplI2 : (pl : Int) < (fs.length : Int) := by have := HPN.out; omega
                        clear hF9 hX9 hS hB7 hP7 hbP7 hF7 hL8 hE8 hws hE7 hz7 hpush hbig hpy hpx htt hyi hwy hX4 hF4 hjl hj hst hN7 hsA hwz hstv hb7 hb8 hc7 hc8 hA1
                        go_upto_region 23 with fail
                        try rw [hV7]
                        clear hV7 d0 d1 d2 e0 e1 e2
                        refine wp_region_held_drew (S := (fun W => W.cell? ⟨bx, 0, none⟩ = some (.int .i64 fl.id) ∧ W.cell? ⟨g, 1, none⟩ = some (.slice (some ⟨p.gs, 0, none⟩) fs.length fs.length) ∧ W.cell? ⟨p.gs, pl, none⟩ = some (.slice (some ⟨b8, o8, none⟩) s.2.1 sc) ∧ W.cell? ⟨b8, o8 + i, none⟩ = some (.int .i64 stv) ∧ W.cell? ⟨bP, 1, none⟩ = some (.int .i64 x.2.1) ∧ W.cell? ⟨wr.heap.size, 1, none⟩ = some (.int .i64 y.2.1) ∧ W.cell? ⟨wr.heap.size, 2, none⟩ = some (.int .i64 y.2.2))) (by kernel_rfl) s0 (fun hHeld => ?_)
                        (((refine wpAnyH_take (i := 0) (v := ?_) rfl (by kernel_rfl) (by kernel_rfl) (by kernel_rfl) (fun _ _ _ h => h) (Or.inl ⟨by kernel_rfl, ?_⟩) (by assumption) ?_); rotate_left 1; (focus (intro w hSw; (try dsimp only at hSw); go_simp; (try with_reducible rfl))); (try simp only [Act.put, List.setIfInBounds_toArray, List.set_cons_zero, List.set_cons_succ])); ((refine wpAnyH_take (i := 1) (v := ?_) rfl (by kernel_rfl) (by kernel_rfl) (by kernel_rfl) (fun _ _ _ h => h) (Or.inl ⟨by kernel_rfl, ?_⟩) (by assumption) ?_); rotate_left 1; (focus (intro w hSw; (try dsimp only at hSw); go_simp; (try with_reducible rfl))); (try simp only [Act.put, List.setIfInBounds_toArray, List.set_cons_zero, List.set_cons_succ])); ((refine wpAnyH_take (i := 2) (v := ?_) rfl (by kernel_rfl) (by kernel_rfl) (by kernel_rfl) (fun _ _ _ h => h) (Or.inl ⟨by kernel_rfl, ?_⟩) (by assumption) ?_); rotate_left 1; (focus (intro w hSw; (try dsimp only at hSw); go_simp; (try with_reducible rfl))); (try simp only [Act.put, List.setIfInBounds_toArray, List.set_cons_zero, List.set_cons_succ])); ((refine wpAnyH_take (i := 3) (v := ?_) rfl (by kernel_rfl) (by kernel_rfl) (by kernel_rfl) (fun _ _ _ h => h) (Or.inl ⟨by kernel_rfl, ?_⟩) (by assumption) ?_); rotate_left 1; (focus (intro w hSw; (try dsimp only at hSw); go_simp; (try with_reducible rfl))); (try simp only [Act.put, List.setIfInBounds_toArray, List.set_cons_zero, List.set_cons_succ])); ((refine wpAnyH_take (i := 4) (v := ?_) rfl (by kernel_rfl) (by kernel_rfl) (by kernel_rfl) (fun _ _ _ h => h) (Or.inl ⟨by kernel_rfl, ?_⟩) (by assumption) ?_); rotate_left 1; (focus (intro w hSw; (try dsimp only at hSw); go_simp; (try with_reducible rfl))); (try simp only [Act.put, List.setIfInBounds_toArray, List.set_cons_zero, List.set_cons_succ])); ((refine wpAnyH_take (i := 5) (v := ?_) rfl (by kernel_rfl) (by kernel_rfl) (by kernel_rfl) (fun _ _ _ h => h) (Or.inl ⟨by kernel_rfl, ?_⟩) (by assumption) ?_); rotate_left 1; (focus (intro w hSw; (try dsimp only at hSw); go_simp; (try with_reducible rfl))); (try simp only [Act.put, List.setIfInBounds_toArray, List.set_cons_zero, List.set_cons_succ])); ((refine wpAnyH_take (i := 6) (v := ?_) rfl (by kernel_rfl) (by kernel_rfl) (by kernel_rfl) (fun _ _ _ h => h) (Or.inl ⟨by kernel_rfl, ?_⟩) (by assumption) ?_); rotate_left 1; (focus (intro w hSw; (try dsimp only at hSw); go_simp; (try with_reducible rfl))); (try simp only [Act.put, List.setIfInBounds_toArray, List.set_cons_zero, List.set_cons_succ])); ((refine wpAnyH_take (i := 7) (v := ?_) rfl (by kernel_rfl) (by kernel_rfl) (by kernel_rfl) (fun _ _ _ h => h) (Or.inl ⟨by kernel_rfl, ?_⟩) (by assumption) ?_); rotate_left 1; (focus (intro w hSw; (try dsimp only at hSw); go_simp; (try with_reducible rfl))); (try simp only [Act.put, List.setIfInBounds_toArray, List.set_cons_zero, List.set_cons_succ])); ((refine wpAnyH_take (i := 8) (v := ?_) rfl (by kernel_rfl) (by kernel_rfl) (by kernel_rfl) (fun _ _ _ h => h) (Or.inl ⟨by kernel_rfl, ?_⟩) (by assumption) ?_); rotate_left 1; (focus (intro w hSw; (try dsimp only at hSw); go_simp; (try with_reducible rfl))); (try simp only [Act.put, List.setIfInBounds_toArray, List.set_cons_zero, List.set_cons_succ])); ((refine wpAnyH_take (i := 9) (v := ?_) rfl (by kernel_rfl) (by kernel_rfl) (by kernel_rfl) (fun _ _ _ h => h) (Or.inl ⟨by kernel_rfl, ?_⟩) (by assumption) ?_); rotate_left 1; (focus (intro w hSw; (try dsimp only at hSw); go_simp; (try with_reducible rfl))); (try simp only [Act.put, List.setIfInBounds_toArray, List.set_cons_zero, List.set_cons_succ])); ((refine wpAnyH_take (i := 10) (v := ?_) rfl (by kernel_rfl) (by kernel_rfl) (by kernel_rfl) (fun _ _ _ h => h) (Or.inl ⟨by kernel_rfl, ?_⟩) (by assumption) ?_); rotate_left 1; (focus (intro w hSw; (try dsimp only at hSw); go_simp; (try with_reducible rfl))); (try simp only [Act.put, List.setIfInBounds_toArray, List.set_cons_zero, List.set_cons_succ])); ((refine wpAnyH_take (i := 11) (v := ?_) rfl (by kernel_rfl) (by kernel_rfl) (by kernel_rfl) (fun _ _ _ h => h) (Or.inl ⟨by kernel_rfl, ?_⟩) (by assumption) ?_); rotate_left 1; (focus (intro w hSw; (try dsimp only at hSw); go_simp; (try with_reducible rfl))); (try simp only [Act.put, List.setIfInBounds_toArray, List.set_cons_zero, List.set_cons_succ])); ((refine wpAnyH_take (i := 12) (v := ?_) rfl (by kernel_rfl) (by kernel_rfl) (by kernel_rfl) (fun _ _ _ h => h) (Or.inl ⟨by kernel_rfl, ?_⟩) (by assumption) ?_); rotate_left 1; (focus (intro w hSw; (try dsimp only at hSw); go_simp; (try with_reducible rfl))); (try simp only [Act.put, List.setIfInBounds_toArray, List.set_cons_zero, List.set_cons_succ])); ((refine wpAnyH_take (i := 13) (v := ?_) rfl (by kernel_rfl) (by kernel_rfl) (by kernel_rfl) (fun _ _ _ h => h) (Or.inl ⟨by kernel_rfl, ?_⟩) (by assumption) ?_); rotate_left 1; (focus (intro w hSw; (try dsimp only at hSw); go_simp; (try with_reducible rfl))); (try simp only [Act.put, List.setIfInBounds_toArray, List.set_cons_zero, List.set_cons_succ])); ((refine wpAnyH_take (i := 14) (v := ?_) rfl (by kernel_rfl) (by kernel_rfl) (by kernel_rfl) (fun _ _ _ h => h) (Or.inl ⟨by kernel_rfl, ?_⟩) (by assumption) ?_); rotate_left 1; (focus (intro w hSw; (try dsimp only at hSw); go_simp; (try with_reducible rfl))); (try simp only [Act.put, List.setIfInBounds_toArray, List.set_cons_zero, List.set_cons_succ])); ((refine wpAnyH_take (i := 15) (v := ?_) rfl (by kernel_rfl) (by kernel_rfl) (by kernel_rfl) (fun _ _ _ h => h) (Or.inl ⟨by kernel_rfl, ?_⟩) (by assumption) ?_); rotate_left 1; (focus (intro w hSw; (try dsimp only at hSw); go_simp; (try with_reducible rfl))); (try simp only [Act.put, List.setIfInBounds_toArray, List.set_cons_zero, List.set_cons_succ])); ((refine wpAnyH_take (i := 16) (v := ?_) rfl (by kernel_rfl) (by kernel_rfl) (by kernel_rfl) (fun _ _ _ h => h) (Or.inl ⟨by kernel_rfl, ?_⟩) (by assumption) ?_); rotate_left 1; (focus (intro w hSw; (try dsimp only at hSw); go_simp; (try with_reducible rfl))); (try simp only [Act.put, List.setIfInBounds_toArray, List.set_cons_zero, List.set_cons_succ])); ((refine wpAnyH_take (i := 17) (v := ?_) rfl (by kernel_rfl) (by kernel_rfl) (by kernel_rfl) (fun _ _ _ h => h) (Or.inl ⟨by kernel_rfl, ?_⟩) (by assumption) ?_); rotate_left 1; (focus (intro w hSw; (try dsimp only at hSw); go_simp; (try with_reducible rfl))); (try simp only [Act.put, List.setIfInBounds_toArray, List.set_cons_zero, List.set_cons_succ])); ((refine wpAnyH_take (i := 18) (v := ?_) rfl (by kernel_rfl) (by kernel_rfl) (by kernel_rfl) (fun _ _ _ h => h) (Or.inl ⟨by kernel_rfl, ?_⟩) (by assumption) ?_); rotate_left 1; (focus (intro w hSw; (try dsimp only at hSw); go_simp; (try with_reducible rfl))); (try simp only [Act.put, List.setIfInBounds_toArray, List.set_cons_zero, List.set_cons_succ])); ((refine wpAnyH_take (i := 19) (v := ?_) rfl (by kernel_rfl) (by kernel_rfl) (by kernel_rfl) (fun _ _ _ h => h) (Or.inl ⟨by kernel_rfl, ?_⟩) (by assumption) ?_); rotate_left 1; (focus (intro w hSw; (try dsimp only at hSw); go_simp; (try with_reducible rfl))); (try simp only [Act.put, List.setIfInBounds_toArray, List.set_cons_zero, List.set_cons_succ])); ((refine wpAnyH_take (i := 20) (v := ?_) rfl (by kernel_rfl) (by kernel_rfl) (by kernel_rfl) (fun _ _ _ h => h) (Or.inl ⟨by kernel_rfl, ?_⟩) (by assumption) ?_); rotate_left 1; (focus (intro w hSw; (try dsimp only at hSw); go_simp; (try with_reducible rfl))); (try simp only [Act.put, List.setIfInBounds_toArray, List.set_cons_zero, List.set_cons_succ])); ((refine wpAnyH_take (i := 21) (v := ?_) rfl (by kernel_rfl) (by kernel_rfl) (by kernel_rfl) (fun _ _ _ h => h) (Or.inl ⟨by kernel_rfl, ?_⟩) (by assumption) ?_); rotate_left 1; (focus (intro w hSw; (try dsimp only at hSw); go_simp; (try with_reducible rfl))); (try simp only [Act.put, List.setIfInBounds_toArray, List.set_cons_zero, List.set_cons_succ])))
                        clear hHeld
                        (((refine wpAnyH_ready (rs := [22]) (by kernel_rfl) (by simp) ?_); (refine AllReadyH.cons rfl (fun K hK => ?_) AllReadyH.nil); (rw [if_pos (by kernel_rfl)]); go_simp))
                        (try simp only [hw1, hw2])
                        (try rw [hV8])
                        refine hK _ _ s8 (fun hh => ?_)
                        clear hK K hh
                        (try simp only [Act.put, List.setIfInBounds_toArray, List.set_cons_zero, List.set_cons_succ])
                        refine wpAnyH_ready (rs := [23]) (by kernel_rfl) (by simp) ?_
                        refine AllReadyH.cons rfl (fun K hK => ?_) AllReadyH.nil
                        refine step_app_runQ (by rfl) _ _ (by rfl) (by rfl) (by rfl) hrun ?_
                        refine hK _ _ s9 (fun hh => ?_)
                        clear hK K
                        (try simp only [Act.put, List.setIfInBounds_toArray, List.set_cons_zero, List.set_cons_succ])
                        (((refine wpAnyH_take (i := 24) (v := ?_) rfl (by kernel_rfl) (by kernel_rfl) (by kernel_rfl) (fun _ _ _ h => h) (Or.inl ⟨by kernel_rfl, ?_⟩) (by assumption) ?_); rotate_left 1; (focus (intro w hSw; (try dsimp only at hSw); go_simp; (try with_reducible rfl))); (try simp only [Act.put, List.setIfInBounds_toArray, List.set_cons_zero, List.set_cons_succ])))
                        clear hh
                        refine wpAnyH_done (by kernel_rfl) ?_ _
                        go_simp
                        clear s0 s8 s9 hrun
                        go_wp2_with fail
                        have hjl := HJL.out
                        go_roundw
                        case rel => exact ⟨j + 1, A5, c5, rfl, by go_num, by omega, HF9.out, HX9.out⟩
                        case measure => simp [intOf]; omega
                      · have hjn : j = n1 := by omega
                        have hjI : ¬ ((j : Int) < (n1 : Int)) := by omega
                        have HF1 := Lib.hid (show LaF B w2 wr G fl.id mb km f F (fun j => j = bx) A4 (n' + j) c4 (l ++ ins.map (shL fl.id (totL (fl.parts.take i)) x)) by
                          have h1 := hF4.z (Z' := fun j => j = bx) (fun j hj => .inl ((HZ4.out j).2 (.inl hj)))
                          rwa [List.take_of_length_le (l := ins) (by have := HL1.out; omega)] at h1)
                        have HNN1 := Lib.hid (show ((n' + j : Nat) : Int) ≤ 5000 + totL (fl.parts.take (i + 1)) by
                          have h1 := HNN.out
                          have h2 := HL1.out
                          have h3 := HIL2.out
                          have h4 := HTK.out
                          have h5 := HPX.out
                          omega)
                        have HX1 := Lib.hid (show Ex (fun j => B ≤ j ∧ j ≠ bx) V wr from HXV.out.trans hX4 (fun _ _ h => h) (fun j _ h => ⟨h.1, fun e => h.2 ((HZ4.out j).2 (.inl e))⟩))
                        have hil := HIL.out
                        clear hF4 hX4 hjn hj
                        go_wp2_with fail
                        go_roundw
                        case rel => exact ⟨i + 1, A4, n' + j, c4, _, rfl, by go_num, by omega, HF1.out, HIVP.out, HNN1.out, HX1.out⟩
                        case measure => simp [intOf]; omega
                · have hin : i = fl.parts.length := by have := HFB.out.1.len; omega
                  have hiI : ¬ ((i : Int) < (s.2.1 : Int)) := by omega
                  rw [hin] at hIV
                  have hBw := HBX.out.ex hX (fun h => h.2 rfl)
                  have hn5 : n' ≤ 10000 := by have := (htot i).2; omega
                  have hn63 := hF.own.reads.n63
                  have HLN := Lib.hid (HL.out.step HOK.out HPL.out HFL.out hIV hF.pos)
                  have HBW := Lib.hid hBw
                  by_cases h0 : n' = 0
                  · have HLM := Lib.hid (hF.back h0)
                    subst h0
                    clear hF hIV hnn hX hokf hpp htot hil hin hBw hn5 hi
                    go_wp2_with fail
                    have hkl := HKL.out
                    have hkm := HKM.out
                    go_roundw
                    case rel => exact ⟨k + 1, km, f, F, _, by omega, by go_num, HLM.out, HLN.out, by omega⟩
                    case measure => simp [intOf]; omega
                  · have hn0 : (0 : Int) < (n' : Int) := by omega
                    have HST := Lib.hid (spSet_c A' n' c' l wr.drew (hF.own.reads.e (E.refl wr).drew) hF.pos (by omega))
                    have HF := Lib.hid hF
                    have s0 := (hBw.e (E.refl wr).drew).cells.1
                    clear hF hIV hnn hX hokf hpp htot hil hin hBw hn5 hi h0
                    go_upto_region 27 with fail
                    refine wp_region_held_drew (S := (fun W => W.cell? ⟨bx, 0, none⟩ = some (.int .i64 fl.id))) (by kernel_rfl) s0 (fun hHeld => ?_)
                    (((refine wpAnyH_take (i := 0) (v := ?_) rfl (by kernel_rfl) (by kernel_rfl) (by kernel_rfl) (fun _ _ _ h => h) (Or.inl ⟨by kernel_rfl, ?_⟩) (by assumption) ?_); rotate_left 1; (focus (intro w hSw; (try dsimp only at hSw); go_simp; (try with_reducible rfl))); (try simp only [Act.put, List.setIfInBounds_toArray, List.set_cons_zero, List.set_cons_succ])); ((refine wpAnyH_take (i := 1) (v := ?_) rfl (by kernel_rfl) (by kernel_rfl) (by kernel_rfl) (fun _ _ _ h => h) (Or.inl ⟨by kernel_rfl, ?_⟩) (by assumption) ?_); rotate_left 1; (focus (intro w hSw; (try dsimp only at hSw); go_simp; (try with_reducible rfl))); (try simp only [Act.put, List.setIfInBounds_toArray, List.set_cons_zero, List.set_cons_succ])); ((refine wpAnyH_take (i := 2) (v := ?_) rfl (by kernel_rfl) (by kernel_rfl) (by kernel_rfl) (fun _ _ _ h => h) (Or.inl ⟨by kernel_rfl, ?_⟩) (by assumption) ?_); rotate_left 1; (focus (intro w hSw; (try dsimp only at hSw); go_simp; (try with_reducible rfl))); (try simp only [Act.put, List.setIfInBounds_toArray, List.set_cons_zero, List.set_cons_succ])); ((refine wpAnyH_take (i := 3) (v := ?_) rfl (by kernel_rfl) (by kernel_rfl) (by kernel_rfl) (fun _ _ _ h => h) (Or.inl ⟨by kernel_rfl, ?_⟩) (by assumption) ?_); rotate_left 1; (focus (intro w hSw; (try dsimp only at hSw); go_simp; (try with_reducible rfl))); (try simp only [Act.put, List.setIfInBounds_toArray, List.set_cons_zero, List.set_cons_succ])))
                    clear hHeld
                    (((refine wpAnyH_ready (rs := [4]) (by kernel_rfl) (by simp) ?_); (refine AllReadyH.cons rfl (fun K hK => ?_) AllReadyH.nil); (rw [if_pos (by kernel_rfl)]); go_simp))
                    refine HST.out.mono ?_
                    rintro e w27 ⟨A7, n7, c7, rfl, hO7, hE7⟩
                    have hE27 : E wr w27 := (E.refl wr).drew.trans hE7
                    obtain ⟨W, hrun, ⟨f9, F9, hM9⟩, _, hX9⟩ := HF.out.done HWFL.out.1 (by have h1 := HKM.out; have h2 := HKL.out; have h3 := HSM.out.n; omega) hE27 hO7
                    have s7 := (HBW.out.e hE27).cells.1
                    have s9 := ((HBW.out.e hE27).ex hX9 (fun e => by have := HMB.out; omega)).cells.1
                    have HM9 := Lib.hid hM9
                    clear s0 hM9 hX9 hO7 hE7 hE27
                    (try go_wp2_with fail)
                    refine hK.out _ _ s7 (fun hh => ?_)
                    clear hK K
                    (try simp only [Act.put, List.setIfInBounds_toArray, List.set_cons_zero, List.set_cons_succ])
                    (((refine wpAnyH_ready (rs := [5]) (by kernel_rfl) (by simp) ?_); (refine AllReadyH.cons rfl (fun K hK => ?_) AllReadyH.nil); (rw [if_pos (by kernel_rfl)]); go_simp))
                    refine hK _ _ s9 (fun hh2 => ?_)
                    clear hK K hh hh2 s7 s9 hrun
                    (try simp only [Act.put, List.setIfInBounds_toArray, List.set_cons_zero, List.set_cons_succ])
                    refine wpAnyH_done (by kernel_rfl) ?_ _
                    go_simp
                    go_wp2_with fail
                    have hkl := HKL.out
                    have hkm := HKM.out
                    go_roundw
                    case rel => exact ⟨k + 1, km + 1, f9, F9, _, by omega, by go_num, HM9.out, HLN.out, by omega⟩
                    case measure => simp [intOf]; omega
            · have hkn : k = p.ord.length := by omega
              have hkI : ¬ ((k : Int) < (fs.length : Int)) := by omega
              rw [hkn] at hL
              have hmap := hI.fam.map
              have HI := Lib.hid hI
              have HL := Lib.hid hL
              clear hI hL hkn hkl hlo hk hkm
              go_wp2_with (at_range; refine wpList_rangeD hmap mapLT rfl _ rfl rfl ?_; intro w30 cnt30 hR30 hG30 hz30 hc30)
              (try go_frame)
              obtain ⟨r, hr⟩ : ∃ r, wr.heap.size = r := ⟨_, rfl⟩
              have hE30 : E wr w30 := (E.refl wr).grown hG30 (fun j hj => by cases hj)
              have hBr : B ≤ r := by have h1 := HI.out.e.le; have h2 := HBE.out; omega
              rw [hr] at hR30 ⊢
              have HR0 := Lib.hid (HI.out.range hE30 hR30 hBr)
              clear hmap hR30 hG30 hz30 hc30 hr hE30 hBr HI
              go_loopw [19] (fun t19 wr => ∃ (left : Int → Bool) (cnt : Nat) (ks : List Int) (A' : Option Addr) (n' c' : Nat), t19 = .slice A' n' c' ∧ LaR B r w2 wr G mb km f F left cnt ks A' n' c') (fun _ wr => wr.rangeLeft mb r)
              case atStart => exact ⟨_, _, [], none, 0, 0, rfl, HR0.out⟩
              case round =>
                clear HR0
                obtain ⟨left, cnt, ks, A', n', c', rfl, hR⟩ := hrel
                have hrg := hR.rng
                have hn5 : n' ≤ 5000 := by
                  have h1 := HL.out.len HOK.out HIN.out hR.nd
                  have h2 := hR.own.1
                  have h3 := HSM.out.u
                  omega
                have HN5 := Lib.hid hn5
                have HR := Lib.hid hR
                clear hR hn5
                go_wp2_with (first | (at_next; refine wpList_nextD rfl _ rfl r _ _ rfl hrg ?_ ?_) | fail)
                · intro hl0
                  have HSO := Lib.hid (sortLater_c A' n' c' B (ks.flatMap G) wr HR.out.own (by have := HN5.out; omega))
                  have HFU := Lib.hid (HR.out.full hl0)
                  clear hl0 hrg
                  go_wp2_with (go_at_call 49; refine HSO.out.mono ?_; rintro e w34 ⟨rfl, l', hp', hs', hO', hG'⟩)
                  go_ret
                  exact ⟨l', by rw [← HP.out]; exact .inl ⟨HV1.out, HAL.out, HL.out.join HOK.out HG2.out.topo HIN.out HR.out.nd HFU.out hp' hs'⟩, A', n', c', rfl, hO'.rebase (by have h1 := HE2.out.le; have h2 := HBE.out; omega), HE2.out.trans (HR.out.e.grown hG' (fun b hb => by have h1 := (HR.out.own.ltN b hb).1; have h2 := HBE.out; omega))⟩
                · intro x v w3 cnt3 hwx hlx hfx hrg3 hcl hg3 hz3 hen
                  obtain ⟨xA, xn, xc, rfl, hxL, hxr⟩ := HR.out.next hlx hfx hrg3 hg3
                  have hxn : xn ≤ 5000 := by
                    have h1 := HL.out.row_len HOK.out HIN.out x
                    have h2 := hxL.len
                    have h3 := HSM.out.u
                    omega
                  obtain ⟨A9, c9, W9, hrun, hR9⟩ := hxr 29 (by have := HN5.out; omega)
                  have HR9 := Lib.hid hR9
                  have HM := Lib.hid (show cnt3 < wr.rangeLeft mb r by rw [hrg.left_eq]; exact hcl)
                  clear hR9 hxr hxL hxn hrg3 hcl hg3 hz3 hfx hlx hrg
                  go_wp2_with (at_builtin; refine wpList_app_runQ rfl _ _ rfl rfl rfl hrun ?_)
                  go_roundw
                  case rel => exact ⟨_, cnt3, _, A9, n' + xn, c9, by go_num, HR9.out⟩
                  case measure => rw [HR9.out.rng.left_eq]; exact HM.out
end Go.Proofs.Ytmeplpiamkaniaa
/- The example of the section, plain. -/
namespace Go.Proofs.Ytmeplpiamkaniaa
set_option linter.unusedVariables false
set_option linter.unusedSimpArgs false

def exF : List Fl := [⟨0, 0, 0, 0, 0, 0, 0, 0, 10, [], []⟩, ⟨1, 0, 0, 0, 0, 0, 0, 0, 5, [(0, 2, 5)], []⟩, ⟨2, 0, 0, 0, 0, 0, 0, 0, 3, [(1, 3, 2), (1, 0, 1)], []⟩]
theorem ex_one : chk1 [] exF = 0 := by decide
theorem ex_two : chk2 exF = 0 := by decide
theorem ex_ok : GOk exF := ⟨ex_one, ex_two, fun i => i.toNat, by decide⟩
theorem ex_get {i : Int} {f : Fl} (h : getF exF i = some f) : (i = 0 ∧ f.parts = []) ∨ (i = 1 ∧ f.parts = [(0, 2, 5)]) ∨ (i = 2 ∧ f.parts = [(1, 3, 2), (1, 0, 1)]) := by
  obtain ⟨h1, h2⟩ := getF_some h
  simp only [exF, List.mem_cons, List.not_mem_nil, or_false] at h1
  rcases h1 with rfl | rfl | rfl
  · exact .inl ⟨h2.symm, rfl⟩
  · exact .inr (.inl ⟨h2.symm, rfl⟩)
  · exact .inr (.inr ⟨h2.symm, rfl⟩)
theorem ex_src {u v : Un} (h : srcU exF u = some v) : (u = (1, 0) ∧ v = (0, 2)) ∨ (u = (1, 1) ∧ v = (0, 3)) ∨ (u = (1, 2) ∧ v = (0, 4)) ∨ (u = (1, 3) ∧ v = (0, 5)) ∨ (u = (1, 4) ∧ v = (0, 6)) ∨ (u = (2, 0) ∧ v = (1, 3)) ∨ (u = (2, 1) ∧ v = (1, 4)) ∨ (u = (2, 2) ∧ v = (1, 0)) := by
  obtain ⟨a, b⟩ := u
  rw [srcU] at h
  simp only at h
  cases hf : getF exF a with
  | none => rw [hf] at h; cases h
  | some f =>
    rw [hf] at h
    simp only [Option.bind_some] at h
    by_cases h0 : b < 0
    · rw [if_pos h0] at h; cases h
    · rw [if_neg h0] at h
      obtain ⟨n, rfl⟩ : ∃ n : Nat, b = n := ⟨b.toNat, by omega⟩
      simp only [Int.toNat_natCast] at h
      rcases ex_get hf with ⟨rfl, hp⟩ | ⟨rfl, hp⟩ | ⟨rfl, hp⟩
      · rw [hp] at h; cases h
      · rw [hp] at h
        have hU : U [((0 : Int), (2 : Int), (5 : Int))] = [(0, 2), (0, 3), (0, 4), (0, 5), (0, 6)] := by decide
        rw [hU] at h
        match n, h with
        | 0, h => injection h with h; subst h; exact .inl ⟨rfl, rfl⟩
        | 1, h => injection h with h; subst h; exact .inr (.inl ⟨rfl, rfl⟩)
        | 2, h => injection h with h; subst h; exact .inr (.inr (.inl ⟨rfl, rfl⟩))
        | 3, h => injection h with h; subst h; exact .inr (.inr (.inr (.inl ⟨rfl, rfl⟩)))
        | 4, h => injection h with h; subst h; exact .inr (.inr (.inr (.inr (.inl ⟨rfl, rfl⟩))))
        | n + 5, h => cases h
      · rw [hp] at h
        have hU : U [((1 : Int), (3 : Int), (2 : Int)), (1, 0, 1)] = [(1, 3), (1, 4), (1, 0)] := by decide
        rw [hU] at h
        match n, h with
        | 0, h => injection h with h; subst h; exact .inr (.inr (.inr (.inr (.inr (.inl ⟨rfl, rfl⟩)))))
        | 1, h => injection h with h; subst h; exact .inr (.inr (.inr (.inr (.inr (.inr (.inl ⟨rfl, rfl⟩))))))
        | 2, h => injection h with h; subst h; exact .inr (.inr (.inr (.inr (.inr (.inr (.inr ⟨rfl, rfl⟩))))))
        | n + 3, h => cases h
theorem ex_later : LatL exF (fun u => u ∈ U [((0 : Int), (5 : Int), (1 : Int))]) [(0, 5, 1), (1, 3, 1), (2, 0, 1)] := by
  have hU : U [((0 : Int), (5 : Int), (1 : Int)), (1, 3, 1), (2, 0, 1)] = [(0, 5), (1, 3), (2, 0)] := by decide
  have hB : U [((0 : Int), (5 : Int), (1 : Int))] = [(0, 5)] := by decide
  refine ⟨⟨by decide, ?_⟩, fun u => ?_⟩
  · simp [gapL]
  · rw [hU]
    have hb : Lat exF (fun u => u ∈ U [((0 : Int), (5 : Int), (1 : Int))]) (0, 5) := .base (by rw [hB]; simp)
    have h1 : Lat exF (fun u => u ∈ U [((0 : Int), (5 : Int), (1 : Int))]) (1, 3) := .src (v := (0, 5)) (by decide) hb
    constructor
    · intro h
      simp only [List.mem_cons, List.not_mem_nil, or_false] at h
      rcases h with rfl | rfl | rfl
      · exact hb
      · exact h1
      · exact .src (v := (1, 3)) (by decide) h1
    · intro h
      induction h with
      | base h => rw [hB] at h; simp only [List.mem_singleton] at h; subst h; simp
      | @src u v hs _ ih =>
        rcases ex_src hs with ⟨rfl, rfl⟩ | ⟨rfl, rfl⟩ | ⟨rfl, rfl⟩ | ⟨rfl, rfl⟩ | ⟨rfl, rfl⟩ | ⟨rfl, rfl⟩ | ⟨rfl, rfl⟩ | ⟨rfl, rfl⟩ <;> revert ih <;> decide
theorem ex_anc : Sorted (fun i => hasF exF (2, 0, 3) = true ∧ AncI exF (2, 0, 3) i) [0, 1, 2] := by
  have hh : hasF exF (2, 0, 3) = true := by decide
  have a2 : AncU exF (2, 0, 3) (2, 0) := .base (by decide)
  have a1 : AncU exF (2, 0, 3) (1, 3) := .src a2 (by decide)
  have a0 : AncU exF (2, 0, 3) (0, 5) := .src a1 (by decide)
  refine ⟨by decide, fun i => ⟨fun hi => ⟨hh, ?_⟩, fun hi => ?_⟩⟩
  · simp only [List.mem_cons, List.not_mem_nil, or_false] at hi
    rcases hi with rfl | rfl | rfl
    · exact ⟨_, a0, rfl⟩
    · exact ⟨_, a1, rfl⟩
    · exact ⟨_, a2, rfl⟩
  · obtain ⟨_, u, hu, rfl⟩ := hi
    have key : ∀ v : Un, InG exF v → v.1 ∈ [(0 : Int), 1, 2] := fun v hv => by
      obtain ⟨f, hf, _⟩ := hv
      rcases ex_get hf with ⟨h, _⟩ | ⟨h, _⟩ | ⟨h, _⟩ <;> rw [h] <;> decide
    cases hu with
    | base h => rw [(mem_ul.1 h).1]; decide
    | src _ hs => exact key _ (ex_ok.src hs).1
    | made _ _ _ hg hv =>
      rw [(mem_ul.1 hv).1]
      rcases ex_get hg with ⟨h, _⟩ | ⟨h, _⟩ | ⟨h, _⟩ <;> simp only [h] <;> decide
theorem ex_root {r : Un → Un} (h : RootOf exF r) : (ul (2, 0, 3)).map r = U [((0 : Int), (5 : Int), (2 : Int)), (0, 2, 1)] := by
  have e0 : ul ((2 : Int), (0 : Int), (3 : Int)) = [(2, 0), (2, 1), (2, 2)] := by decide
  have e1 : U [((0 : Int), (5 : Int), (2 : Int)), (0, 2, 1)] = [(0, 5), (0, 6), (0, 2)] := by decide
  rw [e0, e1, List.map_cons, List.map_cons, List.map_cons, List.map_nil, h.eval 2 (2, 0) (by decide), h.eval 2 (2, 1) (by decide), h.eval 2 (2, 2) (by decide)]
  decide
end Go.Proofs.Ytmeplpiamkaniaa
/- Same of the reference 03; the example; lives. -/
namespace Go.Proofs.Ytmeplpiamkaniaa
set_option linter.unusedVariables false
set_option linter.unusedSimpArgs false
open Go.RowKit Go.Shelf

set_option maxHeartbeats 400000 in
theorem same03_c (A1 A2 : Option Addr) (n1 c1 n2 c2 : Nat) (l1 l2 : List Int) (w : World) (h1 : Nums .i64 w A1 n1 c1 l1) (h2 : Nums .i64 w A2 n2 c2 l2) :
    Calls Try.prog 21 #[.slice A1 n1 c1, .slice A2 n2 c2] w fun e w' => e = .returned (.bool (sameB l1 l2)) ∧ ∃ m, w' = w.drewN m := by
  have m1 := h1.n63
  have m2 := h2.n63
  by_cases hn : n1 = n2
  · subst hn
    go_enter Try.func21, Try.ntmps21
    go_wp2
    go_loopw [5] (fun i wr => ∃ k : Nat, k ≤ n1 ∧ i = .int .i64 k ∧ Q w wr ∧ Hid (sameB (l1.drop k) (l2.drop k) = sameB l1 l2)) (fun i _ => n1 - (intOf i).toNat)
    case atStart => exact ⟨0, Nat.zero_le _, rfl, Q.refl _, rfl⟩
    case round =>
      obtain ⟨k, hk, rfl, hq, hs⟩ := hrel
      by_cases hlt : k < n1
      · obtain ⟨b1, o1, x, rfl, hb1, hx, hwx, hc1⟩ := (h1.q hq).get hlt
        obtain ⟨b2, o2, y, rfl, hb2, hy, hwy, hc2⟩ := (h2.q hq).get hlt
        have HX := Lib.hid (drop_at hx)
        have HY := Lib.hid (drop_at hy)
        clear hx hy hwx hwy
        by_cases he : x = y
        · have hd : (x != y) = false := by simp [he]
          have HE := Lib.hid he
          clear he
          go_wp2
          go_quiet (fail)
          go_wp2
          go_roundw
          case rel => exact ⟨k + 1, by omega, by go_num, hq.drewN _, show _ = _ by rw [← hs.out, HX.out, HY.out, HE.out]; simp [sameB]⟩
          case measure => simp [intOf]; omega
        · have hd : (x != y) = true := by simpa using he
          go_wp2
          go_quiet (fail)
          go_wp2
          go_ret
          exact ⟨ret_bool (by rw [← hs.out, HX.out, HY.out]; simp [sameB, he]), hq.drewN _⟩
      · have HF := Lib.hid (show sameB l1 l2 = true by rw [← hs.out, drop_end h1.len (by omega), drop_end h2.len (by omega)]; rfl)
        go_wp2
        go_ret
        exact ⟨ret_bool HF.out.symm, hq⟩
  · have hb := (show ((n1 : Int) != (n2 : Int)) = true by simp; omega)
    have HF := Lib.hid (show sameB l1 l2 = false by
      have := h1.len; have := h2.len; simp only [sameB, decide_eq_false_iff_not]; rintro rfl; omega)
    go_enter Try.func21, Try.ntmps21
    go_wp2
    go_ret
    exact ⟨ret_bool HF.out.symm, Q.refl _⟩


/-- a row of flows, written out -/
theorem flows_made (w : World) (q : List FlSl) (hq : ∀ p ∈ q, WfF p.1 ∧ FlB w p.1 p.2.1 p.2.2) (hm : q.length ≤ 1000) : FlowsAt (w.alloc (.cells (flatF q).toArray 47)) (some ⟨w.heap.size, 0, none⟩) q.length q.length (q.map Prod.fst) :=
  ⟨by rw [List.length_map], Nat.le_refl _, by unfold maxLen; omega, fun _ => ⟨w.heap.size, 0, rfl, by simp, fun i f hi => by
    rw [List.getElem?_map] at hi
    obtain ⟨p, hp, rfl⟩ := Option.map_eq_some_iff.1 hi
    obtain ⟨h1, h2⟩ := hq p (List.mem_of_getElem? hp)
    have hb := heap_alloc_new w (.cells (flatF q).toArray 47)
    have e : ∀ k, k < 11 → (w.alloc (.cells (flatF q).toArray 47)).cell? ⟨w.heap.size, i * 11 + k, none⟩ = (flowL p.1 p.2.1 p.2.2)[k]? := fun k hk => by
      rw [cell_of_row _ _ (i * 11 + k) _ _ _ hb, List.getElem?_toArray, flatF_get q i p hp k hk]
    refine ⟨h1, p.2.1, p.2.2, ?_, h2.e ((E.refl w).alloc _)⟩
    unfold FlCells
    rw [Nat.zero_add]
    exact ⟨e 0 (by decide), e 1 (by decide), e 2 (by decide), e 3 (by decide), e 4 (by decide), e 5 (by decide), e 6 (by decide), e 7 (by decide), e 8 (by decide), e 9 (by decide), e 10 (by decide)⟩⟩⟩
theorem wff_lit {f : Fl} (h : (0 ≤ f.id ∧ f.id ≤ 100) ∧ f.step = 0 ∧ f.kind = 0 ∧ f.tick = 0 ∧ f.actor = 0 ∧ f.frm = 0 ∧ f.to = 0 ∧ f.item = 0 ∧ 0 ≤ f.n ∧ f.n ≤ 100) : WfF f := by
  obtain ⟨⟨h1, h2⟩, a, b, c, d, e, g, i, h3, h4⟩ := h
  refine ⟨wf_of_i64 (by omega) (by omega), ?_, ?_, ?_, ?_, ?_, ?_, ?_, wf_of_i64 (by omega) (by omega)⟩
  · rw [a]; decide
  · rw [b]; decide
  · rw [c]; decide
  · rw [d]; decide
  · rw [e]; decide
  · rw [g]; decide
  · rw [i]; decide
set_option maxHeartbeats 2000000 in
set_option maxRecDepth 100000 in
theorem example_c (w : World) : Calls Try.prog 57 #[] w fun e w' => ∃ A, e = .returned (.slice A 3 3) ∧ FlowsAt w' A 3 3 exF ∧ E w w' := by
  have W1 := fun f a n h => wfl_lit (f := f) (a := a) (n := n) h
  obtain ⟨w1, hw1⟩ : ∃ w1, w.alloc (.cells #[.int .i64 0, .int .i64 2, .int .i64 5] 32) = w1 := ⟨_, rfl⟩
  have hE1 : E w w1 := by rw [← hw1]; exact (E.refl w).alloc _
  have hL1 : LotsAt w1 (some ⟨w.heap.size, 0, none⟩) 1 1 [(0, 2, 5)] := by
    rw [← hw1]
    exact lots_made w [(0, 2, 5)] (by intro x hx; simp at hx; subst hx; exact W1 _ _ _ (by decide)) (by decide) (by decide)
  obtain ⟨w2, hw2⟩ : ∃ w2, w1.alloc (.cells #[.int .i64 1, .int .i64 3, .int .i64 2, .int .i64 1, .int .i64 0, .int .i64 1] 32) = w2 := ⟨_, rfl⟩
  have hE2 : E w1 w2 := by rw [← hw2]; exact (E.refl w1).alloc _
  have hL2 : LotsAt w2 (some ⟨w1.heap.size, 0, none⟩) 2 2 [(1, 3, 2), (1, 0, 1)] := by
    rw [← hw2]
    exact lots_made w1 [(1, 3, 2), (1, 0, 1)] (by intro x hx; simp at hx; rcases hx with rfl | rfl <;> exact W1 _ _ _ (by decide)) (by decide) (by decide)
  obtain ⟨w3, hw3⟩ : ∃ w3, w2.alloc (.cells (flatF [(⟨0, 0, 0, 0, 0, 0, 0, 0, 10, [], []⟩, zS, zS), (⟨1, 0, 0, 0, 0, 0, 0, 0, 5, [(0, 2, 5)], []⟩, (some ⟨w.heap.size, 0, none⟩, 1, 1), zS), (⟨2, 0, 0, 0, 0, 0, 0, 0, 3, [(1, 3, 2), (1, 0, 1)], []⟩, (some ⟨w1.heap.size, 0, none⟩, 2, 2), zS)]).toArray 47) = w3 := ⟨_, rfl⟩
  have hE3 : E w2 w3 := by rw [← hw3]; exact (E.refl w2).alloc _
  have hN : Nums .i64 w2 none 0 0 [] := Nums.nil _ _ _ _ (Nat.zero_le _)
  have hF : FlowsAt w3 (some ⟨w2.heap.size, 0, none⟩) 3 3 exF := by
    rw [← hw3]
    exact flows_made w2 [(⟨0, 0, 0, 0, 0, 0, 0, 0, 10, [], []⟩, zS, zS), (⟨1, 0, 0, 0, 0, 0, 0, 0, 5, [(0, 2, 5)], []⟩, (some ⟨w.heap.size, 0, none⟩, 1, 1), zS), (⟨2, 0, 0, 0, 0, 0, 0, 0, 3, [(1, 3, 2), (1, 0, 1)], []⟩, (some ⟨w1.heap.size, 0, none⟩, 2, 2), zS)] (by
      intro p hp
      simp only [List.mem_cons, List.not_mem_nil, or_false] at hp
      rcases hp with rfl | rfl | rfl
      · exact ⟨wff_lit (by simp), LotsAt.nil _ _ _ (Nat.zero_le _), hN⟩
      · exact ⟨wff_lit (by simp), hL1.e hE2, hN⟩
      · exact ⟨wff_lit (by simp), hL2, hN⟩) (by simp)
  have HF := Lib.hid hF
  have HE := Lib.hid (hE1.trans (hE2.trans hE3))
  simp only [flatF, flowL, zS, List.cons_append, List.nil_append, List.append_nil] at hw3
  clear hE1 hE2 hE3 hL1 hL2 hN hF W1
  go_enter Try.func57, Try.ntmps57
  go_wp2_with fail
  (try rw [hw1])
  (try rw [hw2])
  (try rw [hw3])
  go_ret
  exact ⟨_, rfl, HF.out, HE.out⟩
theorem ex_rootF {r : Un → Un} (h : RootOf exF r) : rootF exF r (2, 0, 3) = [(0, 5, 2), (0, 2, 1)] := by
  rw [rootF, if_pos (by decide), ex_root h]
  refine (glued_eq (s := [((0 : Int), (5 : Int), (2 : Int)), (0, 2, 1)]) ?_ rfl).symm
  simp [Glued, contB]
theorem ex_laterOf {l : List Lt} (h : LaterOf exF [((0 : Int), (5 : Int), (1 : Int))] l) : l = [(0, 5, 1), (1, 3, 1), (2, 0, 1)] :=
  h.eq (.inl ⟨by decide, by decide, ex_later⟩)
theorem ex_sm : Sm exF := ⟨by decide, by decide, by decide⟩
theorem nums3 (W : World) : Nums .i64 (W.alloc (.cells #[.int .i64 0, .int .i64 1, .int .i64 2] 3)) (some ⟨W.heap.size, 0, none⟩) 3 3 [0, 1, 2] := by
  have hb := heap_alloc_new W (.cells #[.int .i64 0, .int .i64 1, .int .i64 2] 3)
  refine ⟨rfl, Nat.le_refl _, by unfold maxLen; omega, by intro y hy; simp at hy; rcases hy with rfl | rfl | rfl <;> decide, fun _ => ⟨W.heap.size, 0, rfl, by simp, fun j hj => ?_⟩⟩
  rw [Nat.zero_add, cell_of_row _ _ j _ _ _ hb]
  have : j = 0 ∨ j = 1 ∨ j = 2 := by simp at hj; omega
  rcases this with rfl | rfl | rfl <;> rfl
/-- New of flows that are in order -/
theorem newOk_c (A : Option Addr) (n c : Nat) (fs : List Fl) (w : World) (h : FlowsAt w A n c fs) (hn : n ≤ 100) (hm : ∀ f ∈ fs, f.made.length ≤ 500) (hg : GOk fs) :
    Calls Try.prog 10 #[.slice A n c] w (fun e w' => ∃ g X, e = .returned (.tuple #[.pointer (some ⟨g, 0, none⟩), .int .i64 0]) ∧ GraphAt w' X g fs ∧ E w w' ∧ ∀ i, X i → w.heap.size ≤ i) := by
  refine (new_c A n c fs w h hn hm).mono ?_
  rintro e w' ⟨r, hr, hE, h1⟩
  have h0 := hr.inj (NewE.of_ok hg)
  rcases h1 with ⟨h1, _⟩ | ⟨_, g, X, he, hG, hX⟩
  · exact absurd h0 h1
  · exact ⟨g, X, he, hG, hE, hX⟩
/-- the ancestors, as a list -/
theorem anc_mono {fs : List Fl} {x : Lt} {w : World} {l0 : List Int} (hs : Sorted (fun i => hasF fs x = true ∧ AncI fs x i) l0) {e : Ending} {w' : World} (h : RetSorted w (fun i => hasF fs x = true ∧ AncI fs x i) e w') : RetOwn .i64 3 w l0 e w' := by
  obtain ⟨l, h1, h2⟩ := h
  rw [← h1.eq hs]; exact h2
set_option linter.unusedSimpArgs false in
set_option maxHeartbeats 8000000 in
set_option maxRecDepth 100000 in
theorem lives15_c (w : World) : Calls Try.prog 16 #[] w (RetK w true) := by
  have W1 := fun f a n h => wfl_lit (f := f) (a := a) (n := n) h
  obtain ⟨r, hr⟩ := ex_ok.root
  have HR := Lib.hid (fun W X g (h : GraphAt W X g exF) => (show Calls Try.prog 19 #[.pointer (some ⟨g, 0, none⟩), .agg #[.int .i64 2, .int .i64 0, .int .i64 3]] W (RetL W [(0, 5, 2), (0, 2, 1)]) by
    have h1 := gRoots_c X g exF r (2, 0, 3) W h hr (W1 2 0 3 (by decide)) (fun _ => by decide)
    rw [ex_rootF hr] at h1
    exact h1))
  have HL := Lib.hid (fun W X g A (h : GraphAt W X g exF) (hA : LotsAt W A 1 1 [(0, 5, 1)]) => (show Calls Try.prog 14 #[.pointer (some ⟨g, 0, none⟩), .slice A 1 1] W (RetL W [(0, 5, 1), (1, 3, 1), (2, 0, 1)]) by
    refine (gLater_c X g exF A 1 1 [(0, 5, 1)] W h hA ex_sm).mono ?_
    rintro e w' ⟨l, hl, h1⟩
    rw [ex_laterOf hl] at h1
    exact h1))
  have HA := Lib.hid (fun W X g (h : GraphAt W X g exF) => (show Calls Try.prog 22 #[.pointer (some ⟨g, 0, none⟩), .agg #[.int .i64 2, .int .i64 0, .int .i64 3]] W (RetOwn .i64 3 W [0, 1, 2]) from
    (gAnc_c X g exF (2, 0, 3) W h (W1 2 0 3 (by decide)) ex_sm).mono fun e w' h1 => anc_mono ex_anc h1))
  have HM1 := Lib.hid (fun W => (show LotsAt (W.alloc (.cells #[.int .i64 0, .int .i64 5, .int .i64 1] 32)) (some ⟨W.heap.size, 0, none⟩) 1 1 [(0, 5, 1)] from lots_made W [(0, 5, 1)] (by intro x hx; simp at hx; subst hx; exact W1 _ _ _ (by decide)) (by decide) (by decide)))
  have HM2 := Lib.hid (fun W => (show LotsAt (W.alloc (.cells #[.int .i64 0, .int .i64 5, .int .i64 2, .int .i64 0, .int .i64 2, .int .i64 1] 32)) (some ⟨W.heap.size, 0, none⟩) 2 2 [(0, 5, 2), (0, 2, 1)] from lots_made W [(0, 5, 2), (0, 2, 1)] (by intro x hx; simp at hx; rcases hx with rfl | rfl <;> exact W1 _ _ _ (by decide)) (by decide) (by decide)))
  have HM3 := Lib.hid (fun W => (show LotsAt (W.alloc (.cells #[.int .i64 0, .int .i64 5, .int .i64 1, .int .i64 1, .int .i64 3, .int .i64 1, .int .i64 2, .int .i64 0, .int .i64 1] 32)) (some ⟨W.heap.size, 0, none⟩) 3 3 [(0, 5, 1), (1, 3, 1), (2, 0, 1)] from lots_made W [(0, 5, 1), (1, 3, 1), (2, 0, 1)] (by intro x hx; simp at hx; rcases hx with rfl | rfl | rfl <;> exact W1 _ _ _ (by decide)) (by decide) (by decide)))
  have HM4 := Lib.hid (fun W => nums3 W)
  clear hr W1
  go_enter Try.func16, Try.ntmps16
  go_upto_region 4 with (first
    | (go_at_call 57; refine (example_c _).mono ?_; rintro e w1 ⟨A3, rfl, hF3, hE1⟩)
    | (go_at_call 10; refine (newOk_c A3 3 3 exF w1 hF3 (by decide) (by decide) ex_ok).mono ?_; rintro e w2 ⟨g, X, rfl, hG, hE2, _⟩))
  go_upto_region 5 with (go_at_call 19; refine (HR.out w2 X g hG).mono ?_; rintro e w3 ⟨A6, n6, c6, rfl, hO6, hE3⟩)
  have HO6 := Lib.hid hO6
  have HG3 := Lib.hid (hG.e hE3)
  have HE3 := Lib.hid (hE1.trans (hE2.trans hE3))
  clear hG hE1 hE2 hE3 hO6
  obtain ⟨w4, hw4⟩ : ∃ w4, w3.alloc (.cells #[.int .i64 0, .int .i64 5, .int .i64 1] 32) = w4 := ⟨_, rfl⟩
  have hE4 : E w3 w4 := by rw [← hw4]; exact (E.refl w3).alloc _
  have hL4 := HM1.out w3
  rw [hw4] at hL4
  go_upto_region 6 with (go_at_call 14; (try rw [hw4]); refine (HL.out w4 X g _ (HG3.out.e hE4) hL4).mono ?_; rintro e w5 ⟨A7, n7, c7, rfl, hO7, hE5⟩)
  have HO7 := Lib.hid hO7
  have HE35 := Lib.hid (hE4.trans hE5)
  clear hw4 hL4 hE4 hE5 hO7
  obtain ⟨w6, hw6⟩ : ∃ w6, w5.alloc (.cells #[.int .i64 0, .int .i64 5, .int .i64 2, .int .i64 0, .int .i64 2, .int .i64 1] 32) = w6 := ⟨_, rfl⟩
  have hE6 : E w5 w6 := by rw [← hw6]; exact (E.refl w5).alloc _
  have hL6 := HM2.out w5
  rw [hw6] at hL6
  go_wp2_with fail
  (try rw [hw6])
  refine (same_self _ _ _ _ _ _ [(0, 5, 2), (0, 2, 1)] w6 (HO6.out.reads.e (HE35.out.trans hE6)) hL6).mono ?_
  rintro e w7 ⟨rfl, hE7⟩
  clear hw6 hL6 HO6
  obtain ⟨w8, hw8⟩ : ∃ w8, w7.alloc (.cells #[.int .i64 0, .int .i64 5, .int .i64 1, .int .i64 1, .int .i64 3, .int .i64 1, .int .i64 2, .int .i64 0, .int .i64 1] 32) = w8 := ⟨_, rfl⟩
  have hE8 : E w7 w8 := by rw [← hw8]; exact (E.refl w7).alloc _
  have hL8 := HM3.out w7
  rw [hw8] at hL8
  have HS8 := Lib.hid (same_self _ _ _ _ _ _ [(0, 5, 1), (1, 3, 1), (2, 0, 1)] w8 (HO7.out.reads.e ((hE6.trans hE7).trans hE8)) hL8)
  have HE68 := Lib.hid ((hE6.trans hE7).trans hE8)
  clear hE6 hE7 hE8 hL8 HO7
  go_wp2_with fail
  (try rw [hw8])
  refine HS8.out.mono ?_
  rintro e w9 ⟨rfl, hE9⟩
  have HA9 := Lib.hid (HA.out w9 X g (HG3.out.e (HE35.out.trans (HE68.out.trans hE9))))
  have HE9 := Lib.hid (HE68.out.trans hE9)
  clear hE9 hw8 HS8
  go_wp2_with fail
  refine HA9.out.mono ?_
  rintro e w10 ⟨A10, n10, c10, rfl, hO10, hE10⟩
  obtain ⟨w11, hw11⟩ : ∃ w11, w10.alloc (.cells #[.int .i64 0, .int .i64 1, .int .i64 2] 3) = w11 := ⟨_, rfl⟩
  have hE11 : E w10 w11 := by rw [← hw11]; exact (E.refl w10).alloc _
  have hN11 := HM4.out w10
  rw [hw11] at hN11
  have HS11 := Lib.hid (same03_c _ _ _ _ _ _ [0, 1, 2] [0, 1, 2] w11 (hO10.reads.e hE11) hN11)
  have HE11 := Lib.hid (HE9.out.trans (hE10.trans hE11))
  clear hE10 hE11 hN11 hO10 HA9
  go_wp2_with fail
  (try rw [hw11])
  refine HS11.out.mono ?_
  rintro e w12 ⟨rfl, hE12⟩
  clear hw11 HS11
  go_wp2_with fail
  go_ret
  exact ⟨by simp [sameB], HE3.out.trans (HE35.out.trans (HE11.out.q hE12))⟩
end Go.Proofs.Ytmeplpiamkaniaa
/- What the laws share: bounds of the generator's graphs; Has of the model. -/
namespace Go.Proofs.Ytmeplpiamkaniaa
set_option linter.unusedVariables false
set_option linter.unusedSimpArgs false
open Go.RowKit

theorem GenG.made {fs : List Fl} {i : Nat} (h : GenG fs i) : ∀ f ∈ fs, f.made.length ≤ 500 := fun f hf => by have := h.ml f hf; omega
theorem GenG.rng {fs : List Fl} {i : Nat} (h : GenG fs i) : ∀ f ∈ fs, 1 ≤ f.n ∧ f.n ≤ 1099511627776 := fun f hf => by
  obtain ⟨_, _, _, o3, o4, _⟩ := okF_iff.1 (h.ok.ok f hf)
  exact ⟨o3, o4⟩
theorem GenG.has300 {fs : List Fl} {i : Nat} (h : GenG fs i) (hi : i ≤ 9) {x : Lt} (hx : hasF fs x = true) : x.2.2 ≤ 300000 := by
  have h1 := has_n hx
  have h2 := h.c2304 hi
  have h3 := has_get hx
  omega

set_option maxHeartbeats 4000000 in
set_option maxRecDepth 100000 in
theorem hasL_c (f a : Int) (A : Option Addr) (n c : Nat) (l : List Lt) (w : World) (h : LotsAt w A n c l) (hl : ∀ x ∈ l, possB x = true) : Calls Try.prog 26 #[.slice A n c, .int .i64 f, .int .i64 a] w (RetK w (hasB l (f, a))) := by
  have hm63 := h.n63
  have HL := Lib.hid h.len
  have HP := Lib.hid hl
  have HB := Lib.hid (show hasB l (f, a) = (l.drop 0).any fun x => decide (x.1 = f) && (decide (x.2.1 ≤ a) && decide (a < x.2.1 + x.2.2)) by rw [List.drop_zero]; rfl)
  have HD := Lib.hid (fun k x (hx : l[k]? = some x) => (show ((l.drop k).any fun x => decide (x.1 = f) && (decide (x.2.1 ≤ a) && decide (a < x.2.1 + x.2.2))) = ((decide (x.1 = f) && (decide (x.2.1 ≤ a) && decide (a < x.2.1 + x.2.2))) || (l.drop (k + 1)).any fun x => decide (x.1 = f) && (decide (x.2.1 ≤ a) && decide (a < x.2.1 + x.2.2))) by
    obtain ⟨hk, rfl⟩ := List.getElem?_eq_some_iff.1 hx
    rw [List.drop_eq_getElem_cons hk, List.any_cons]))
  have HZ := Lib.hid (fun k (hk : n ≤ k) => (show ((l.drop k).any fun x => decide (x.1 = f) && (decide (x.2.1 ≤ a) && decide (a < x.2.1 + x.2.2))) = false by rw [List.drop_eq_nil_of_le (by rw [h.len]; exact hk)]; rfl))
  clear hl
  generalize hasB l (f, a) = r at *
  go_enter Try.func26, Try.ntmps26
  go_wp2_with fail
  go_loopw [7] (fun ti wr => ∃ k : Nat, k ≤ n ∧ ti = .int .i64 k ∧ E w wr ∧ Hid (r = (l.drop k).any fun x => decide (x.1 = f) && (decide (x.2.1 ≤ a) && decide (a < x.2.1 + x.2.2)))) (fun ti _ => n - (intOf ti).toNat)
  case atStart => exact ⟨0, Nat.zero_le _, rfl, E.refl _, HB.out⟩
  case round =>
    obtain ⟨k, hk, rfl, hE, hV⟩ := hrel
    by_cases hlt : k < n
    · obtain ⟨b, o, x, rfl, hb, hx, hwx, c0, c1, c2⟩ := (h.e hE).get hlt
      have hpx := possB_iff.1 (HP.out x (List.mem_of_getElem? hx))
      have hS := HD.out k x hx
      have hkI : (k : Int) < (n : Int) := by omega
      have hk0 : (0 : Int) ≤ (k : Int) := by omega
      have hwr : IntKind.i64.wrap (x.2.1 + x.2.2) = x.2.1 + x.2.2 := by rw [IntKind.wrap_i64]; omega
      obtain ⟨xf, xa, xn⟩ := x
      simp only at c0 c1 c2 hpx hS hwr
      clear hx
      by_cases q1 : xf = f
      · have q1s := q1.symm
        subst q1s
        by_cases q2 : xa ≤ a
        · have s2 : decide (xa ≤ a) = true := by simpa using q2
          by_cases q3 : a < xa + xn
          · have s3 : decide (a < xa + xn) = true := by simpa using q3
            have HF := Lib.hid (show r = true by rw [hV.out, hS]; simp [q2, q3])
            clear hS hV q3
            go_upto_region 4 with fail
            (refine wp_region_quiet_lit (by kernel_rfl) (by kernel_rfl) ?_; (repeat (first | ((with_reducible refine wpQuiet_step (fun K hK => ?_)); go_simp; (with_reducible refine hK _ ?_); clear hK K) | ((with_reducible refine wpQuiet_off (by kernel_rfl) (fun K hK => ?_)); go_simp; (with_reducible refine hK _ ?_); clear hK K))); (with_reducible refine wpQuiet_nil ?_); intro _ hw'; obtain ⟨nq, hw''⟩ := hw'; subst hw'')
            try rw [s3]
            go_wp2_with fail
            go_ret
            exact ⟨ret_bool HF.out.symm, hE.drewN _⟩
          · have s3 : decide (a < xa + xn) = false := by simpa using q3
            have HF := Lib.hid (show r = (l.drop (k + 1)).any fun x => decide (x.1 = f) && (decide (x.2.1 ≤ a) && decide (a < x.2.1 + x.2.2)) by rw [hV.out, hS]; simp only [s3, Bool.and_false, Bool.false_or])
            clear hS hV
            go_upto_region 4 with fail
            (refine wp_region_quiet_lit (by kernel_rfl) (by kernel_rfl) ?_; (repeat (first | ((with_reducible refine wpQuiet_step (fun K hK => ?_)); go_simp; (with_reducible refine hK _ ?_); clear hK K) | ((with_reducible refine wpQuiet_off (by kernel_rfl) (fun K hK => ?_)); go_simp; (with_reducible refine hK _ ?_); clear hK K))); (with_reducible refine wpQuiet_nil ?_); intro _ hw'; obtain ⟨nq, hw''⟩ := hw'; subst hw'')
            try rw [s3]
            go_wp2_with fail
            go_roundw
            case rel => exact ⟨k + 1, by omega, by go_num, hE.drewN _, HF.out⟩
            case measure => simp [intOf]; omega
        · have s2 : decide (xa ≤ a) = false := by simpa using q2
          have HF := Lib.hid (show r = (l.drop (k + 1)).any fun x => decide (x.1 = f) && (decide (x.2.1 ≤ a) && decide (a < x.2.1 + x.2.2)) by rw [hV.out, hS]; simp only [s2, Bool.and_false, Bool.false_and, Bool.false_or])
          clear hS hV
          go_upto_region 4 with fail
          (refine wp_region_quiet_lit (by kernel_rfl) (by kernel_rfl) ?_; (repeat (first | ((with_reducible refine wpQuiet_step (fun K hK => ?_)); go_simp; (with_reducible refine hK _ ?_); clear hK K) | ((with_reducible refine wpQuiet_off (by kernel_rfl) (fun K hK => ?_)); go_simp; (with_reducible refine hK _ ?_); clear hK K))); (with_reducible refine wpQuiet_nil ?_); intro _ hw'; obtain ⟨nq, hw''⟩ := hw'; subst hw'')
          try rw [s2]
          go_wp2_with fail
          go_roundw
          case rel => exact ⟨k + 1, by omega, by go_num, hE.drewN _, HF.out⟩
          case measure => simp [intOf]; omega
      · have s1 : (xf == f) = false := by simpa using q1
        have HF := Lib.hid (show r = (l.drop (k + 1)).any fun x => decide (x.1 = f) && (decide (x.2.1 ≤ a) && decide (a < x.2.1 + x.2.2)) by rw [hV.out, hS]; simp only [q1, decide_false, Bool.false_and, Bool.false_or])
        clear hS hV
        go_upto_region 4 with fail
        (refine wp_region_quiet_lit (by kernel_rfl) (by kernel_rfl) ?_; (repeat (first | ((with_reducible refine wpQuiet_step (fun K hK => ?_)); go_simp; (with_reducible refine hK _ ?_); clear hK K) | ((with_reducible refine wpQuiet_off (by kernel_rfl) (fun K hK => ?_)); go_simp; (with_reducible refine hK _ ?_); clear hK K))); (with_reducible refine wpQuiet_nil ?_); intro _ hw'; obtain ⟨nq, hw''⟩ := hw'; subst hw'')
        go_wp2_with fail
        go_roundw
        case rel => exact ⟨k + 1, by omega, by go_num, hE.drewN _, HF.out⟩
        case measure => simp [intOf]; omega
    · have HF := Lib.hid (show r = false by rw [hV.out, HZ.out k (by omega)])
      go_wp2_with fail
      go_ret
      exact ⟨ret_bool HF.out.symm, hE⟩
end Go.Proofs.Ytmeplpiamkaniaa
