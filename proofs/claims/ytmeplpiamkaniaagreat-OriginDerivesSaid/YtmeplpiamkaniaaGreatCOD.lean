/- Lemmas of the claim, joined: LawOD. No condition. -/
import Derived.Test.YtmeplpiamkaniaaGreatNM
import Derived.Test.YtmeplpiamkaniaaGreatNF
import Derived.Test.YtmeplpiamkaniaaGreatNI
import Derived.Test.YtmeplpiamkaniaaGreatNU
import Derived.Test.YtmeplpiamkaniaaGreatNV
import Derived.Test.YtmeplpiamkaniaaGreatNS
import Derived.Test.YtmeplpiamkaniaaGreatNW
import Derived.Test.YtmeplpiamkaniaaGreatNC
import Derived.ArgAppend
namespace Go.Proofs.YtmeplpiamkaniaaGreat
set_option linter.unusedVariables false
set_option linter.unusedSimpArgs false
open Go.RowKit
def fl77 : Fl := ⟨77, 0, 0, 0, 0, 0, 0, 0, 1, [], []⟩
theorem app77 (V : World) (b1 b9 o9 n9 c9 : Nat) (ds : List Fl) (hblk : V.heap[b1]? = some (.cells (flowL fl77 zS zS).toArray 43 (0, 0))) (hF : FlowsAt V (some ⟨b9, o9, none⟩) n9 c9 ds) (h0 : 0 < n9) (hn : n9 ≤ 1000) :
    ∃ A' c' V1, (Builtin.append_ #[23, 23] 23 #[.slice (some ⟨b1, 0, none⟩) 1 1, .slice (some ⟨b9, o9, none⟩) n9 c9]).run Tryz.prog V = .ok (.slice A' (1 + n9) c') V1 ∧ FlowsAt V1 A' (1 + n9) c' (fl77 :: ds) ∧ E V V1 := by
  obtain ⟨i, hi, hz0, hz1, hz2⟩ := info_parts flowT.info
  obtain ⟨q2, hq2, hqp, hqc⟩ := hF.fs
  obtain ⟨b, o, e, hb, hc⟩ := hqc h0
  obtain ⟨rfl, rfl⟩ : b9 = b ∧ o9 = o := by
    have := Option.some.inj e
    injection this with e1 e2
    exact ⟨e1, e2⟩
  have hl2 : q2.length = n9 := by have := congrArg List.length hq2; rw [List.length_map, hF.len] at this; exact this
  obtain ⟨v', w', hrun, hO, hG⟩ := run_append_arg_grows (P := Tryz.prog) V 23 23 43 i _ 11 120 flowT.und hi hz0 hz1 hz2 rfl (by decide) ⟨b1, 0, none⟩ 1 1 (flatF [(fl77, zS, zS)]) rfl (fun j u hu => by
      rw [add_plain, Nat.zero_add, cell_of_row _ _ j _ _ _ hblk, List.getElem?_toArray]
      exact hu) ⟨b9, o9, none⟩ n9 c9 (flatF q2) (by rw [flatF_len, hl2]) (fun j u hu => by rw [add_plain]; exact hc j u hu) (by omega) (by unfold maxLen; omega) (by omega)
  have hE : E V w' := (E.refl V).grown hG (fun k hk => by cases hk)
  rcases hO.2 with ⟨_, h1⟩ | ⟨g', c', cur, rfl, hge, r⟩
  · omega
  · refine ⟨_, c', w', hrun, ?_, hE⟩
    have hR : FRow w' V.heap.size (some ⟨g', 0, none⟩) (1 + n9) c' ((fl77, zS, zS) :: q2) := ⟨by rw [List.length_cons, hl2]; omega, by
      have := hO
      rw [show flatF [(fl77, zS, zS)] ++ flatF q2 = flatF ((fl77, zS, zS) :: q2) from by simp [flatF]] at this
      exact this, fun p hp => by
      rcases List.mem_cons.1 hp with rfl | hp
      · exact ⟨⟨by decide, by decide, by decide, by decide, by decide, by decide, by decide, by decide, by decide⟩, ⟨LotsAt.nil _ _ _ (Nat.zero_le _), Nums.nil _ _ _ _ (Nat.zero_le _)⟩, fun h => absurd h (by simp [zS]), fun h => absurd h (by simp [zS])⟩
      · obtain ⟨p1, p2⟩ := hqp p hp
        obtain ⟨k1, k2⟩ := p2.blk
        refine ⟨p1, p2.e hE, fun h e => ?_, fun h e => ?_⟩
        · obtain ⟨b', e1, h2⟩ := k1 h
          rw [e1] at e
          have := ob_some' e.symm
          omega
        · obtain ⟨b', e1, h2⟩ := k2 h
          rw [e1] at e
          have := ob_some' e.symm
          omega⟩
    have := hR.flows
    rw [List.map_cons, hq2] at this
    exact this
def RetDer4 (w : World) (fs : List Fl) (x : Lt) (e : Ending) (w' : World) : Prop :=
  E w w' ∧ ∃ A n c r, e = .returned (.tuple #[.slice A n c, .int .i64 r]) ∧ ((r = 1 ∧ hasF fs x = false ∧ FlowsAt w' A n c [] ∧ ∀ W, FlowsAt W A n c []) ∨ (r = 0 ∧ hasF fs x = true ∧ ∃ ds, DerOf fs x.1 ds ∧ FlowsAt w' A n c ds ∧ ∀ (Y : Nat → Prop) (W : World), Ex Y w' W → (∀ i, Y i → i < w.heap.size) → FlowsAt W A n c ds))
theorem RetDerS.four {w : World} {fs : List Fl} {x : Lt} {e : Ending} {w' : World} (h : RetDerS w fs x e w') : RetDer4 w fs x e w' := by
  obtain ⟨hE, h⟩ := h
  rcases h with ⟨h0, rfl⟩ | ⟨h0, ds, A, n, c, hd, rfl, hF, hS⟩
  · exact ⟨hE, _, _, _, _, rfl, .inl ⟨rfl, h0, FlowsAt.nil _ _ _ (Nat.zero_le _), fun _ => FlowsAt.nil _ _ _ (Nat.zero_le _)⟩⟩
  · exact ⟨hE, _, _, _, _, rfl, .inr ⟨rfl, h0, ds, hd, hF, hS⟩⟩
def RetDer5 (w : World) (fs : List Fl) (x : Lt) (e : Ending) (w' : World) : Prop :=
  E w w' ∧ ∃ A n c r, e = .returned (.tuple #[.slice A n c, .int .i64 r]) ∧ ((r = 1 ∧ hasF fs x = false ∧ FlowsAt w' A n c []) ∨ (r = 0 ∧ hasF fs x = true ∧ ∃ ds, DerOf fs x.1 ds ∧ FlowsAt w' A n c ds))
theorem RetDer.five {w : World} {fs : List Fl} {x : Lt} {e : Ending} {w' : World} (h : RetDer w fs x e w') : RetDer5 w fs x e w' := by
  obtain ⟨hE, h⟩ := h
  rcases h with ⟨h0, rfl⟩ | ⟨h0, ds, A, n, c, hd, rfl, hF⟩
  · exact ⟨hE, _, _, _, _, rfl, .inl ⟨rfl, h0, FlowsAt.nil _ _ _ (Nat.zero_le _)⟩⟩
  · exact ⟨hE, _, _, _, _, rfl, .inr ⟨rfl, h0, ds, hd, hF⟩⟩
structure FewD (W : World) (A : Option Addr) (n c : Nat) (l : List Fl) : Prop where
  at_ : FlowsAt W A n c l
  n : n ≤ 20
  z : ∀ f ∈ l, f.parts.length ≤ 20 ∧ f.made.length ≤ 20
theorem FewD.e {W W' : World} {A : Option Addr} {n c : Nat} {l : List Fl} (h : FewD W A n c l) (hE : E W W') : FewD W' A n c l := ⟨h.at_.e hE, h.n, h.z⟩
theorem four_rows {w W : World} {S0 S1 S2 S3 : Option Addr × Nat × Nat} {l0 l1 l2 l3 : List Fl} (hE : E (w.alloc (.cells #[.slice S0.1 S0.2.1 S0.2.2, .slice S1.1 S1.2.1 S1.2.2, .slice S2.1 S2.2.1 S2.2.2, .slice S3.1 S3.2.1 S3.2.2] 23)) W) (h0 : FewD w S0.1 S0.2.1 S0.2.2 l0) (h1 : FewD w S1.1 S1.2.1 S1.2.2 l1) (h2 : FewD w S2.1 S2.2.1 S2.2.2 l2) (h3 : FewD w S3.1 S3.2.1 S3.2.2 l3) :
    ∀ i : Nat, i < 4 → ∃ (A : Option Addr) (n c : Nat) (l : List Fl), FewD W A n c l ∧ W.cell? ⟨w.heap.size, i, none⟩ = some (.slice A n c) := fun i hi => by
  have hb := heap_alloc_new w (.cells #[.slice S0.1 S0.2.1 S0.2.2, .slice S1.1 S1.2.1 S1.2.2, .slice S2.1 S2.2.1 S2.2.2, .slice S3.1 S3.2.1 S3.2.2] 23)
  have hc := cell_of_row W w.heap.size i _ _ _ ((hE.block (lt_blk hb)).trans hb)
  have hA : E w W := ((E.refl w).alloc _).trans hE
  obtain rfl | rfl | rfl | rfl : i = 0 ∨ i = 1 ∨ i = 2 ∨ i = 3 := by omega
  · exact ⟨_, _, _, _, h0.e hA, hc.trans rfl⟩
  · exact ⟨_, _, _, _, h1.e hA, hc.trans rfl⟩
  · exact ⟨_, _, _, _, h2.e hA, hc.trans rfl⟩
  · exact ⟨_, _, _, _, h3.e hA, hc.trans rfl⟩
set_option linter.unusedSimpArgs false in
set_option maxHeartbeats 16000000 in
set_option maxRecDepth 100000 in
theorem originDerives_w (A0 : Option Addr) (n0 c0 : Nat) (l0 : List Int) (A1 : Option Addr) (n1 c1 : Nat) (l1 : List Int) (at_ which by_ : Int) (w : World) (h0 : Nums .i64 w A0 n0 c0 l0) (h1 : Nums .i64 w A1 n1 c1 l1) (hat : (Lit.int .i64 at_).wf = true) (hwh : (Lit.int .i64 which).wf = true) (hby : (Lit.int .i64 by_).wf = true) :
    Calls Tryz.prog 5 #[.slice A0 n0 c0, .slice A1 n1 c1, .int .i64 at_, .int .i64 which, .int .i64 by_] w (RetK w true) := by
  have HFL := Lib.hid (refFlows_c A0 n0 c0 l0 w h0)
  have H1 := Lib.hid h1
  have HAT := Lib.hid hat
  have HWH := Lib.hid hwh
  have HBY := Lib.hid hby
  have HLV := Lib.hid (fun W => lives15_c W)
  clear h0 h1 hat hwh hby
  go_enter Tryz.func5, Tryz.ntmps5
  go_upto_region 2 with (go_at_call 6; refine HFL.out.mono ?_; rintro e w1 ⟨fs, A7, n7, c7, hGen, hn9, rfl, hF, hE1⟩)
  have HGE := Lib.hid hGen
  have HF := Lib.hid hF
  have HE1 := Lib.hid hE1
  have HN9 := Lib.hid hn9
  have HNW := Lib.hid (newOk_c A7 n7 c7 fs w1 hF (by omega) hGen.made hGen.ok)
  have hn63 := hF.n63
  clear hGen hF hE1 hn9 HFL
  go_upto_region 3 with (go_at_call 7; refine HNW.out.mono ?_; rintro e w2 ⟨g, X, rfl, hG, hE2, hX2⟩)
  have HG := Lib.hid hG
  have HE2 := Lib.hid hE2
  have HX2 := Lib.hid hX2
  have HLT := Lib.hid (show Calls Tryz.prog 8 #[.slice A7 n7 c7, .slice A1 n1 c1, .int .i64 0] w2 (RetSome w2) from refLot_c A7 n7 c7 fs A1 n1 c1 l1 0 w2 (HF.out.e hE2) HGE.out.rng (H1.out.e (HE1.out.trans hE2)) (by omega))
  clear hG hE2 hX2 HNW
  go_upto_region 6 with (go_at_call 8; refine HLT.out.mono ?_; rintro e w5 ⟨x, hwx, he, hE5⟩; unfold ltV at he; subst he)
  obtain ⟨w6, hw6⟩ : ∃ w6, w5.alloc (.cells #[.int .i64 x.1, .int .i64 x.2.1, .int .i64 x.2.2] 30) = w6 := ⟨_, rfl⟩
  have hE6 : E w5 w6 := by rw [← hw6]; exact (E.refl w5).alloc _
  have HBB := Lib.hid (show LtBox w6 w5.heap.size x by rw [← hw6]; exact LtBox.new w5 x)
  try rw [hw6]
  have HWX := Lib.hid hwx
  have HE26 := Lib.hid (hE5.trans hE6)
  have HZ25 := Lib.hid hE5.size
  have HFN := Lib.hid (show fs.length = n7 from HF.out.len)
  have hfl : fs.length ≤ 1000 := by have := HFN.out; have := HN9.out; omega
  have hsz9 : ∀ f ∈ fs, f.parts.length ≤ 10000 ∧ f.made.length ≤ 10000 := fun f hf => ⟨by have := HGE.out.pl f hf; omega, by have := HGE.out.ml f hf; omega⟩
  have HDC := Lib.hid ((gDeriveS_c X g fs x w6 (HG.out.e HE26.out) hwx (fun f hf => by have := hsz9 f hf; omega) hfl).mono fun _ _ h => h.four)
  unfold ltV at HDC
  obtain ⟨d0, d1, d2⟩ := HBB.out.cells
  obtain ⟨hh, hhk⟩ := HGE.out.ok.hash
  have HHK := Lib.hid hhk
  have HFL := Lib.hid hfl
  have HSZ := Lib.hid hsz9
  clear hw6 hE5 hE6 hwx HLT hhk hfl hsz9
  go_upto_region 7 with (go_at_call 9; refine HDC.out.mono ?_; rintro e w7 ⟨hE7, A9, n9, c9, r9, rfl, hor9⟩)
  have HE7 := Lib.hid hE7
  have HBB7 := Lib.hid (HBB.out.e hE7)
  clear hE7 d0 d1 d2 HDC
  obtain ⟨d0, d1, d2⟩ := HBB7.out.cells
  have HRD := Lib.hid ((refDerive_c A7 n7 c7 fs x w7 (HF.out.e ((HE2.out.trans HE26.out).trans HE7.out)) HGE.out.ok HWX.out (fun f hf => by have := HSZ.out f hf; omega) (by have := HN9.out; omega)).mono fun _ _ h => h.five)
  unfold ltV at HRD
  have HOR := Lib.hid hor9
  clear hor9
  go_upto_region 8 with (go_at_call 25; refine HRD.out.mono ?_; rintro e w8 ⟨hE8, A12, n12, c12, r12, rfl, hor12⟩)
  have HE8 := Lib.hid hE8
  have HBB8 := Lib.hid (HBB7.out.e hE8)
  clear hE8 d0 d1 d2 HRD
  have hor9 := HOR.out
  rcases hor9 with ⟨rfl, hb, hF9, _⟩ | ⟨rfl, hb, ds, hds, hF9, hS9⟩
  · rcases hor12 with ⟨rfl, _, hF12⟩ | ⟨_, hb2, _⟩
    · have HSL := Lib.hid (sameList_c A9 n9 c9 [] A12 n12 c12 [] w8 (hF9.e HE8.out) hF12)
      have HEF := Lib.hid (HE1.out.trans (((HE2.out.trans HE26.out).trans HE7.out).trans HE8.out))
      clear hb hF9 hF12
      go_wp2_with (first
        | (go_at_call 13; refine HSL.out.mono ?_; rintro e wn ⟨bv, rfl, hbv, hEn⟩; (have hbv := hbv rfl); subst hbv; have HEN := Lib.hid (HEF.out.trans hEn); clear hEn)
        | (go_at_call 11; refine (HLV.out _).mono ?_; rintro e wz ⟨rfl, hEz⟩))
      go_ret
      exact ⟨rfl, HEN.out.trans hEz⟩
    · rw [hb] at hb2; cases hb2
  · rcases hor12 with ⟨_, hb2, _⟩ | ⟨rfl, _, ds2, hds2, hF12⟩
    · rw [hb] at hb2; cases hb2
    · have hdd := DerOf.eq HGE.out.ok.ids hds hds2
      subst hdd
      have HB := Lib.hid hb
      have HDS := Lib.hid hds
      have HSL := Lib.hid (sameList_c A9 n9 c9 ds A12 n12 c12 ds w8 (hF9.e HE8.out) hF12)
      have HS9 := Lib.hid hS9
      have HL9 := Lib.hid (show ds.length = n9 from hF9.len)
      clear hds2 hF12 hds hS9 hF9 HOR
      go_upto_region 12 with (go_at_call 13; refine HSL.out.mono ?_; rintro e w9 ⟨bv, rfl, hbv, hE9⟩; (have hbv := hbv rfl); subst hbv)
      have HE9 := Lib.hid hE9
      have HBB9 := Lib.hid (HBB8.out.e hE9)
      obtain ⟨d0, d1, d2⟩ := HBB9.out.cells
      obtain ⟨_, f0, hgf0, _⟩ := hasF_iff.1 hb
      obtain ⟨p, hG9⟩ := HG.out.e (((HE26.out.trans HE7.out).trans HE8.out).trans HE9.out)
      have hhc := gHash_c X g fs x.1 p hh w9 hG9 HHK.out HSZ.out HFL.out HWX.out.1
      rw [hVal_get hgf0, hgf0] at hhc
      have HHC := Lib.hid hhc
      obtain ⟨v, hv⟩ : ∃ v, hh x.1 = v := ⟨_, rfl⟩
      have HV := Lib.hid hv
      have hvr := HashOf.range HHK.out hgf0
      rw [hv] at HHC hvr
      obtain ⟨rk, hrk⟩ := HGE.out.ok.rk
      have HRH := Lib.hid (fun W (hF : FlowsAt W A7 n7 c7 fs) => refHash_c fs rk hrk HGE.out.ok hh HHK.out HSZ.out A7 n7 c7 (rk x.1 + 1) x.1 W (Nat.lt_succ_self _) hF ⟨f0, hgf0⟩)
      have HVRG := Lib.hid hvr
      clear hG9 hhc hv hgf0 hrk hE9 hb hvr
      go_upto_region 13 with (go_at_call 10; refine HHC.out.mono ?_; rintro e w10 ⟨rfl, X8, hG8, hX8, hX8l⟩)
      have hXl := HG.out.lt
      have h26 := HE26.out.size
      have h67 := HE7.out.size
      have h78 := HE8.out.size
      have h25 := HZ25.out
      have HB10 := Lib.hid (show LtBox w10 w5.heap.size x from (hX8.block _ HBB9.out.lt (fun e => by have := hXl _ e; omega)).trans HBB9.out)
      have HE10 := Lib.hid (show E w1 w10 from e_ex ((((HE2.out.trans HE26.out).trans HE7.out).trans HE8.out).trans HE9.out) hX8 (fun i hi => HX2.out i hi))
      have HD10 := Lib.hid (show FlowsAt w10 A9 n9 c9 ds from HS9.out X w10 ((Ex.of_e (X := X) (HE8.out.trans HE9.out)).trans hX8 (fun _ _ x => x) (fun _ _ x => x)) (fun i hi => by have := hXl i hi; omega))
      have hdsz : ∀ f ∈ ds, f.parts.length ≤ 9 ∧ f.made.length ≤ 9 := fun f hf => by
        have := ((HDS.out.mem f).1 hf).1
        exact ⟨HGE.out.pl f this, HGE.out.ml f this⟩
      have hdl := HDS.out.len HGE.out.ok.ids
      have HDN := Lib.hid (show n9 ≤ 9 by have := HFN.out; have := HN9.out; have := HL9.out; omega)
      have HDZ := Lib.hid hdsz
      clear hG8 hX8 hX8l HHC hXl h26 h67 h78 h25 d0 d1 d2 hdsz hdl
      obtain ⟨d0, d1, d2⟩ := HB10.out.cells
      have HRH2 := Lib.hid (fun W (hW : E w10 W) => show Calls Tryz.prog 26 #[.slice A7 n7 c7, .int .i64 x.1] W (fun e w' => e = .returned (.int .u64 v) ∧ E W w') from by
        have := HRH.out W (HF.out.e (HE10.out.trans hW))
        rwa [HV.out] at this)
      have HVP := Lib.hid (fun W (u : Int) (hW : E w10 W) => oVerify_c A9 n9 c9 ds x u W (HD10.out.e hW) (by have := HDN.out; omega) (fun f hf => by have := HDZ.out f hf; omega) HWX.out)
      unfold ltV at HVP
      have HDD := Lib.hid (fun W (hW : E w10 W) => (HB10.out.e hW).cells)
      have hEa := E.refl w10
      have hvv : IntKind.u64.wrap (v + 1) ≠ v := by have := HVRG.out; rw [IntKind.wrap_u64]; omega
      have HVV := Lib.hid hvv
      clear hvv
      go_cut [94] (fun t94 wx => t94 = .bool false ∧ E w10 wx)
      case first =>
        go_wp2_with (first
          | (go_at_call 26; refine (HRH2.out _ hEa).mono ?_; rintro e wn ⟨rfl, hEn⟩; replace hEa := hEa.trans hEn; clear d0 d1 d2; obtain ⟨d0, d1, d2⟩ := HDD.out _ hEa; clear hEn)
          | (go_at_call 14; (with_reducible refine (HVP.out _ v hEa).mono ?_); rintro e wn ⟨r, hr, rfl, hEn⟩; (obtain rfl := (ver_der HGE.out.ok HDS.out HB.out HHK.out hr).1 HV.out); replace hEa := hEa.trans hEn; clear d0 d1 d2; obtain ⟨d0, d1, d2⟩ := HDD.out _ hEa; clear hEn hr)
          | (go_at_call 14; (refine (HVP.out _ _ hEa).mono ?_); rintro e wn ⟨r, hr, rfl, hEn⟩; (obtain rfl := (ver_der HGE.out.ok HDS.out HB.out HHK.out hr).2 (by rw [HV.out]; exact fun e => HVV.out e.symm)); replace hEa := hEa.trans hEn; clear hEn hr))
        all_goals (
          go_meet
          exact ⟨rfl, hEa⟩)
      case rest =>
        obtain ⟨rfl, hE11⟩ := hcut
        generalize wc = w11 at *
        have HE11 := Lib.hid (HE10.out.trans hE11)
        have HD11 := Lib.hid (HD10.out.e hE11)
        have HB11 := Lib.hid (HB10.out.e hE11)
        obtain ⟨_, f0, hgf0, _⟩ := hasF_iff.1 HB.out
        have hf0 : f0 ∈ ds := (HDS.out.mem f0).2 ⟨(getF_some hgf0).1, .inl (getF_some hgf0).2⟩
        have hn9p : 0 < n9 := by
          have := HL9.out
          have := List.length_pos_of_mem hf0
          omega
        obtain ⟨a0, a1⟩ := wf_i64 HAT.out
        obtain ⟨ar, har⟩ : ∃ ar : Nat, at_ % (n9 : Int) = (ar : Int) := ⟨(at_ % (n9 : Int)).toNat, by have := Int.emod_nonneg at_ (b := (n9 : Int)) (by omega); omega⟩
        have harn : ar < n9 := by have := Int.emod_lt_of_pos at_ (b := (n9 : Int)) (by omega); omega
        obtain ⟨b9, o9, hA9, hDr⟩ := HD11.out.drop ar harn
        have hc9 := HD11.out.cap
        have hn9I : (0 : Int) < (n9 : Int) := by omega
        have har0 : (0 : Int) ≤ (ar : Int) := by omega
        have hari : (ar : Int) < (n9 : Int) := by omega
        have hari2 : (ar : Int) ≤ (n9 : Int) := by omega
        have hnc : (n9 : Int) ≤ (c9 : Int) := by omega
        have hcne : ¬ c9 = ar := by omega
        have hcneI : ¬ (c9 : Int) = (ar : Int) := by omega
        have HAR := Lib.hid (fun W => show Calls Tryz.prog 17 #[.int .i64 at_, .int .i64 n9] W (fun e w' => e = .returned (.int .i64 ar) ∧ W = w') from by
          have := aroundR at_ (n9 : Int) W a0 a1 (by omega) (by have := HDN.out; omega)
          rwa [har] at this)
        have HF7 := Lib.hid (show FewD w11 A7 n7 c7 fs from ⟨HF.out.e HE11.out, by have := HN9.out; omega, fun f hf => by have := HGE.out.pl f hf; have := HGE.out.ml f hf; omega⟩)
        have HDR := Lib.hid (show FewD w11 (some ⟨b9, o9 + ar * 11, none⟩) (n9 - ar) (c9 - ar) (ds.drop ar) from ⟨hDr, by have := HDN.out; omega, fun f hf => by have := HDZ.out f (List.mem_of_mem_drop hf); omega⟩)
        subst hA9
        have HSPD := Lib.hid (fun W (hW : E w11 W) => (spoilt_c (some ⟨b9, o9, none⟩) n9 c9 ds at_ which by_ 9 9 W (HD11.out.e hW) (by have := HDN.out; omega) (fun f hf => HDZ.out f hf) (by omega) HAT.out HWH.out HBY.out).mono (fun e w' (h : RetFew W n9 10 10 e w') => show ∃ l A n c, e = .returned (.slice A n c) ∧ FewD w' A n c l ∧ E W w' from by
          obtain ⟨l, A, n, c, h1, h2, h3, h4, h5⟩ := h
          exact ⟨l, A, n, c, h3, ⟨h4, by have := HDN.out; omega, fun f hf => by have := h2 f hf; omega⟩, h5⟩))
        have HAPP := Lib.hid (fun (V : World) (b1 : Nat) (hE : E w11 V) (hblk : V.heap[b1]? = some (.cells (flowL fl77 zS zS).toArray 43 (0, 0))) => show ∃ A' c' V1 l', (Builtin.append_ #[23, 23] 23 #[.slice (some ⟨b1, 0, none⟩) 1 1, .slice (some ⟨b9, o9, none⟩) n9 c9]).run Tryz.prog V = .ok (.slice A' (1 + n9) c') V1 ∧ FewD V1 A' (1 + n9) c' l' ∧ E V V1 ∧ E w11 V1 from by
          obtain ⟨A', c', V1, h1, h2, h3⟩ := app77 V b1 b9 o9 n9 c9 ds hblk (HD11.out.e hE) (by omega) (by have := HDN.out; omega)
          refine ⟨A', c', V1, _, h1, ⟨h2, by have := HDN.out; omega, fun f hf => ?_⟩, h3, hE.trans h3⟩
          rcases List.mem_cons.1 hf with rfl | hf
          · exact ⟨by simp [fl77], by simp [fl77]⟩
          · have := HDZ.out f hf; omega)
        have HXB := Lib.hid (fun W (hW : E w11 W) => (HB11.out.e hW).cells)
        have HEND := Lib.hid HE11.out
        clear hE11 hf0 hgf0 har a0 a1 hDr d0 d1 d2 hc9
        go_upto_region 15 with fail
        go_cut [21] (fun t21 wx => ∃ bq, t21 = .slice (some ⟨bq, 0, none⟩) 4 4 ∧ E w11 wx ∧ bq < wx.heap.size ∧ ∀ i : Nat, i < 4 → ∃ (A : Option Addr) (n c : Nat) (l : List Fl), FewD wx A n c l ∧ wx.cell? ⟨bq, i, none⟩ = some (.slice A n c))
        case first =>
          have hEa := (E.refl w11).drew
          refine wp_region_held_drew (S := fun _ => True) (by kernel_rfl) trivial (fun hHeld => ?_)
          (((refine wpAnyH_take (i := 0) (v := ?_) rfl (by kernel_rfl) (by kernel_rfl) (by kernel_rfl) (fun _ _ _ h => h) (Or.inl ⟨by kernel_rfl, ?_⟩) (by assumption) ?_); rotate_left 1; (focus (intro w hSw; (try dsimp only at hSw); go_simp; (try with_reducible rfl))); (try simp only [Act.put, sA, sB, sC])); ((refine wpAnyH_take (i := 1) (v := ?_) rfl (by kernel_rfl) (by kernel_rfl) (by kernel_rfl) (fun _ _ _ h => h) (Or.inl ⟨by kernel_rfl, ?_⟩) (by assumption) ?_); rotate_left 1; (focus (intro w hSw; (try dsimp only at hSw); go_simp; (try with_reducible rfl))); (try simp only [Act.put, sA, sB, sC])); ((refine wpAnyH_take (i := 2) (v := ?_) rfl (by kernel_rfl) (by kernel_rfl) (by kernel_rfl) (fun _ _ _ h => h) (Or.inl ⟨by kernel_rfl, ?_⟩) (by assumption) ?_); rotate_left 1; (focus (intro w hSw; (try dsimp only at hSw); go_simp; (try with_reducible rfl))); (try simp only [Act.put, sA, sB, sC])); ((refine wpAnyH_take (i := 3) (v := ?_) rfl (by kernel_rfl) (by kernel_rfl) (by kernel_rfl) (fun _ _ _ h => h) (Or.inl ⟨by kernel_rfl, ?_⟩) (by assumption) ?_); rotate_left 1; (focus (intro w hSw; (try dsimp only at hSw); go_simp; (try with_reducible rfl))); (try simp only [Act.put, sA, sB, sC])); ((refine wpAnyH_take (i := 4) (v := ?_) rfl (by kernel_rfl) (by kernel_rfl) (by kernel_rfl) (fun _ _ _ h => h) (Or.inl ⟨by kernel_rfl, ?_⟩) (by assumption) ?_); rotate_left 1; (focus (intro w hSw; (try dsimp only at hSw); go_simp; (try with_reducible rfl))); (try simp only [Act.put, sA, sB, sC])); ((refine wpAnyH_take (i := 6) (v := ?_) rfl (by kernel_rfl) (by kernel_rfl) (by kernel_rfl) (fun _ _ _ h => h) (Or.inl ⟨by kernel_rfl, ?_⟩) (by assumption) ?_); rotate_left 1; (focus (intro w hSw; (try dsimp only at hSw); go_simp; (try with_reducible rfl))); (try simp only [Act.put, sA, sB, sC])); ((refine wpAnyH_take (i := 7) (v := ?_) rfl (by kernel_rfl) (by kernel_rfl) (by kernel_rfl) (fun _ _ _ h => h) (Or.inl ⟨by kernel_rfl, ?_⟩) (by assumption) ?_); rotate_left 1; (focus (intro w hSw; (try dsimp only at hSw); go_simp; (try with_reducible rfl))); (try simp only [Act.put, sA, sB, sC])); ((refine wpAnyH_take (i := 8) (v := ?_) rfl (by kernel_rfl) (by kernel_rfl) (by kernel_rfl) (fun _ _ _ h => h) (Or.inl ⟨by kernel_rfl, ?_⟩) (by assumption) ?_); rotate_left 1; (focus (intro w hSw; (try dsimp only at hSw); go_simp; (try with_reducible rfl))); (try simp only [Act.put, sA, sB, sC])); ((refine wpAnyH_take (i := 9) (v := ?_) rfl (by kernel_rfl) (by kernel_rfl) (by kernel_rfl) (fun _ _ _ h => h) (Or.inl ⟨by kernel_rfl, ?_⟩) (by assumption) ?_); rotate_left 1; (focus (intro w hSw; (try dsimp only at hSw); go_simp; (try with_reducible rfl))); (try simp only [Act.put, sA, sB, sC])); ((refine wpAnyH_take (i := 12) (v := ?_) rfl (by kernel_rfl) (by kernel_rfl) (by kernel_rfl) (fun _ _ _ h => h) (Or.inl ⟨by kernel_rfl, ?_⟩) (by assumption) ?_); rotate_left 1; (focus (intro w hSw; (try dsimp only at hSw); go_simp; (try with_reducible rfl))); (try simp only [Act.put, sA, sB, sC])); ((refine wpAnyH_take (i := 14) (v := ?_) rfl (by kernel_rfl) (by kernel_rfl) (by kernel_rfl) (fun _ _ _ h => h) (Or.inl ⟨by kernel_rfl, ?_⟩) (by assumption) ?_); rotate_left 1; (focus (intro w hSw; (try dsimp only at hSw); go_simp; (try with_reducible rfl))); (try simp only [Act.put, sA, sB, sC])))
          refine wpAnyH_ready (rs := [5, 13]) (by kernel_rfl) (by simp) ?_
          refine AllReadyH.cons rfl (fun K hK => ?_) (AllReadyH.cons rfl (fun K hK => ?_) AllReadyH.nil)
          · rw [if_pos (by kernel_rfl)]
            go_simp
            refine (HSPD.out _ hEa).mono ?_
            rintro e wn ⟨l10, A10, n10, c10, rfl, hF10, hEn⟩
            replace hEa := hEa.trans hEn
            refine hK _ _ trivial (fun hh => ?_)
            clear hK K hHeld
            have hHeld := hh
            clear hh
            (try simp only [List.getElem_toArray, List.getElem_cons_succ, List.getElem_cons_zero, Act.put, sA, sB, sC])
            refine wpAnyH_ready (rs := [10, 13]) (by kernel_rfl) (by simp) ?_
            refine AllReadyH.cons rfl (fun K hK => ?_) (AllReadyH.cons rfl (fun K hK => ?_) AllReadyH.nil)
            · rw [if_pos (by kernel_rfl)]
              go_simp
              refine (HAR.out _).mono ?_
              rintro e wm ⟨rfl, rfl⟩
              refine hK _ _ trivial (fun hh => ?_)
              clear hK K hHeld
              have hHeld := hh
              clear hh
              (try simp only [List.getElem_toArray, List.getElem_cons_succ, List.getElem_cons_zero, Act.put, sA, sB, sC])
              (((refine wpAnyH_take (i := 11) (v := ?_) rfl (by kernel_rfl) (by kernel_rfl) (by kernel_rfl) (fun _ _ _ h => h) (Or.inl ⟨by kernel_rfl, ?_⟩) (by assumption) ?_); rotate_left 1; (focus (intro w hSw; (try dsimp only at hSw); go_simp; (try with_reducible rfl))); (try simp only [Act.put, sA, sB, sC])))
              obtain ⟨X, hX⟩ : ∃ X, wn.alloc (.cells #[.int .i64 77, .int .i64 0, .int .i64 0, .int .i64 0, .int .i64 0, .int .i64 0, .int .i64 0, .int .i64 0, .int .i64 1, .slice none 0 0, .slice none 0 0] 43) = X := ⟨_, rfl⟩
              have hEX : E wn X := by rw [← hX]; exact (E.refl wn).alloc _
              obtain ⟨A', c', V1, l', hrun, hFl, hEV0, hEV⟩ := HAPP.out X wn.heap.size (hEa.trans hEX) (by rw [← hX]; exact heap_alloc_new wn _)
              have hE10v := hEX.trans hEV0
              (((refine wpAnyH_ready (rs := [13]) (by kernel_rfl) (by simp) ?_); (refine AllReadyH.cons rfl (fun K hK => ?_) AllReadyH.nil); (rw [if_pos (by kernel_rfl)]); go_simp))
              (try rw [hX])
              refine hK _ _ trivial (fun hh => ?_)
              clear hK K hHeld
              have hHeld := hh
              clear hh
              (try simp only [List.getElem_toArray, List.getElem_cons_succ, List.getElem_cons_zero, Act.put, sA, sB, sC])
              refine wpAnyH_ready (rs := [15]) (by kernel_rfl) (by simp) ?_
              refine AllReadyH.cons rfl (fun K hK => ?_) AllReadyH.nil
              refine step_app_runQ (by rfl) _ _ (by rfl) (by rfl) (by rfl) hrun ?_
              refine hK _ _ trivial (fun hh => ?_)
              clear hK K hHeld
              have hHeld := hh
              clear hh
              (try simp only [List.getElem_toArray, List.getElem_cons_succ, List.getElem_cons_zero, Act.put, sA, sB, sC])
              (((refine wpAnyH_ready (rs := [16]) (by kernel_rfl) (by simp) ?_); (refine AllReadyH.cons rfl (fun K hK => ?_) AllReadyH.nil); (rw [if_pos (by kernel_rfl)]); go_simp))
              refine hK _ _ trivial (fun hh => ?_)
              clear hK K hHeld
              have hHeld := hh
              clear hh
              (try simp only [List.getElem_toArray, List.getElem_cons_succ, List.getElem_cons_zero, Act.put, sA, sB, sC])
              (((refine wpAnyH_take (i := 17) (v := ?_) rfl (by kernel_rfl) (by kernel_rfl) (by kernel_rfl) (fun _ _ _ h => h) (Or.inl ⟨by kernel_rfl, ?_⟩) (by assumption) ?_); rotate_left 1; (focus (intro w hSw; (try dsimp only at hSw); go_simp; (try with_reducible rfl))); (try simp only [Act.put, sA, sB, sC])))
              refine wpAnyH_done (by kernel_rfl) ?_ _
              go_simp
              clear hHeld
              go_wp2_with fail
              go_meet
              exact ⟨V1.heap.size, rfl, hEV.alloc _, Nat.lt_of_lt_of_le (Nat.lt_succ_self _) (by simp), four_rows (S0 := (A7, n7, c7)) (S1 := (A10, n10, c10)) (S2 := (some ⟨b9, o9 + ar * 11, none⟩, n9 - ar, c9 - ar)) (S3 := (A', 1 + n9, c')) (E.refl _) (HF7.out.e hEV) (hF10.e hE10v) (HDR.out.e hEV) hFl⟩
            · rw [if_pos (by kernel_rfl)]
              go_simp
              obtain ⟨X, hX⟩ : ∃ X, wn.alloc (.cells #[.int .i64 77, .int .i64 0, .int .i64 0, .int .i64 0, .int .i64 0, .int .i64 0, .int .i64 0, .int .i64 0, .int .i64 1, .slice none 0 0, .slice none 0 0] 43) = X := ⟨_, rfl⟩
              have hEX : E wn X := by rw [← hX]; exact (E.refl wn).alloc _
              obtain ⟨A', c', V1, l', hrun, hFl, hEV0, hEV⟩ := HAPP.out X wn.heap.size (hEa.trans hEX) (by rw [← hX]; exact heap_alloc_new wn _)
              have hE10v := hEX.trans hEV0
              (try rw [hX])
              refine hK _ _ trivial (fun hh => ?_)
              clear hK K hHeld
              have hHeld := hh
              clear hh
              (try simp only [List.getElem_toArray, List.getElem_cons_succ, List.getElem_cons_zero, Act.put, sA, sB, sC])
              (((refine wpAnyH_ready (rs := [10]) (by kernel_rfl) (by simp) ?_); (refine AllReadyH.cons rfl (fun K hK => ?_) AllReadyH.nil); (rw [if_pos (by kernel_rfl)]); go_simp))
              refine (HAR.out _).mono ?_
              rintro e wm ⟨rfl, rfl⟩
              refine hK _ _ trivial (fun hh => ?_)
              clear hK K hHeld
              have hHeld := hh
              clear hh
              (try simp only [List.getElem_toArray, List.getElem_cons_succ, List.getElem_cons_zero, Act.put, sA, sB, sC])
              (((refine wpAnyH_take (i := 11) (v := ?_) rfl (by kernel_rfl) (by kernel_rfl) (by kernel_rfl) (fun _ _ _ h => h) (Or.inl ⟨by kernel_rfl, ?_⟩) (by assumption) ?_); rotate_left 1; (focus (intro w hSw; (try dsimp only at hSw); go_simp; (try with_reducible rfl))); (try simp only [Act.put, sA, sB, sC])))
              refine wpAnyH_ready (rs := [15]) (by kernel_rfl) (by simp) ?_
              refine AllReadyH.cons rfl (fun K hK => ?_) AllReadyH.nil
              refine step_app_runQ (by rfl) _ _ (by rfl) (by rfl) (by rfl) hrun ?_
              refine hK _ _ trivial (fun hh => ?_)
              clear hK K hHeld
              have hHeld := hh
              clear hh
              (try simp only [List.getElem_toArray, List.getElem_cons_succ, List.getElem_cons_zero, Act.put, sA, sB, sC])
              (((refine wpAnyH_ready (rs := [16]) (by kernel_rfl) (by simp) ?_); (refine AllReadyH.cons rfl (fun K hK => ?_) AllReadyH.nil); (rw [if_pos (by kernel_rfl)]); go_simp))
              refine hK _ _ trivial (fun hh => ?_)
              clear hK K hHeld
              have hHeld := hh
              clear hh
              (try simp only [List.getElem_toArray, List.getElem_cons_succ, List.getElem_cons_zero, Act.put, sA, sB, sC])
              (((refine wpAnyH_take (i := 17) (v := ?_) rfl (by kernel_rfl) (by kernel_rfl) (by kernel_rfl) (fun _ _ _ h => h) (Or.inl ⟨by kernel_rfl, ?_⟩) (by assumption) ?_); rotate_left 1; (focus (intro w hSw; (try dsimp only at hSw); go_simp; (try with_reducible rfl))); (try simp only [Act.put, sA, sB, sC])))
              refine wpAnyH_done (by kernel_rfl) ?_ _
              go_simp
              clear hHeld
              go_wp2_with fail
              go_meet
              exact ⟨V1.heap.size, rfl, hEV.alloc _, Nat.lt_of_lt_of_le (Nat.lt_succ_self _) (by simp), four_rows (S0 := (A7, n7, c7)) (S1 := (A10, n10, c10)) (S2 := (some ⟨b9, o9 + ar * 11, none⟩, n9 - ar, c9 - ar)) (S3 := (A', 1 + n9, c')) (E.refl _) (HF7.out.e hEV) (hF10.e hE10v) (HDR.out.e hEV) hFl⟩
          · rw [if_pos (by kernel_rfl)]
            go_simp
            obtain ⟨X, hX⟩ : ∃ X, (w11.alloc (.cells #[.int .i64 77, .int .i64 0, .int .i64 0, .int .i64 0, .int .i64 0, .int .i64 0, .int .i64 0, .int .i64 0, .int .i64 1, .slice none 0 0, .slice none 0 0] 43)).drew = X := ⟨_, rfl⟩
            have hEX : E w11 X := by rw [← hX]; exact ((E.refl w11).alloc _).drew
            have hbX : X.heap[w11.heap.size]? = some (.cells (flowL fl77 zS zS).toArray 43 (0, 0)) := by rw [← hX]; exact heap_alloc_new w11 _
            (try rw [hX])
            refine hK _ _ trivial (fun hh => ?_)
            clear hK K hHeld
            have hHeld := hh
            clear hh
            (try simp only [List.getElem_toArray, List.getElem_cons_succ, List.getElem_cons_zero, Act.put, sA, sB, sC])
            (((refine wpAnyH_ready (rs := [5]) (by kernel_rfl) (by simp) ?_); (refine AllReadyH.cons rfl (fun K hK => ?_) AllReadyH.nil); (rw [if_pos (by kernel_rfl)]); go_simp))
            refine (HSPD.out _ hEX).mono ?_
            rintro e wn ⟨l10, A10, n10, c10, rfl, hF10, hEn⟩
            obtain ⟨A', c', V1, l', hrun, hFl, hEV0, hEV⟩ := HAPP.out wn w11.heap.size (hEX.trans hEn) ((hEn.block (lt_blk hbX)).trans hbX)
            have hE10v := hEV0
            refine hK _ _ trivial (fun hh => ?_)
            clear hK K hHeld
            have hHeld := hh
            clear hh
            (try simp only [List.getElem_toArray, List.getElem_cons_succ, List.getElem_cons_zero, Act.put, sA, sB, sC])
            (((refine wpAnyH_ready (rs := [10]) (by kernel_rfl) (by simp) ?_); (refine AllReadyH.cons rfl (fun K hK => ?_) AllReadyH.nil); (rw [if_pos (by kernel_rfl)]); go_simp))
            refine (HAR.out _).mono ?_
            rintro e wm ⟨rfl, rfl⟩
            refine hK _ _ trivial (fun hh => ?_)
            clear hK K hHeld
            have hHeld := hh
            clear hh
            (try simp only [List.getElem_toArray, List.getElem_cons_succ, List.getElem_cons_zero, Act.put, sA, sB, sC])
            (((refine wpAnyH_take (i := 11) (v := ?_) rfl (by kernel_rfl) (by kernel_rfl) (by kernel_rfl) (fun _ _ _ h => h) (Or.inl ⟨by kernel_rfl, ?_⟩) (by assumption) ?_); rotate_left 1; (focus (intro w hSw; (try dsimp only at hSw); go_simp; (try with_reducible rfl))); (try simp only [Act.put, sA, sB, sC])))
            refine wpAnyH_ready (rs := [15]) (by kernel_rfl) (by simp) ?_
            refine AllReadyH.cons rfl (fun K hK => ?_) AllReadyH.nil
            refine step_app_runQ (by rfl) _ _ (by rfl) (by rfl) (by rfl) hrun ?_
            refine hK _ _ trivial (fun hh => ?_)
            clear hK K hHeld
            have hHeld := hh
            clear hh
            (try simp only [List.getElem_toArray, List.getElem_cons_succ, List.getElem_cons_zero, Act.put, sA, sB, sC])
            (((refine wpAnyH_ready (rs := [16]) (by kernel_rfl) (by simp) ?_); (refine AllReadyH.cons rfl (fun K hK => ?_) AllReadyH.nil); (rw [if_pos (by kernel_rfl)]); go_simp))
            refine hK _ _ trivial (fun hh => ?_)
            clear hK K hHeld
            have hHeld := hh
            clear hh
            (try simp only [List.getElem_toArray, List.getElem_cons_succ, List.getElem_cons_zero, Act.put, sA, sB, sC])
            (((refine wpAnyH_take (i := 17) (v := ?_) rfl (by kernel_rfl) (by kernel_rfl) (by kernel_rfl) (fun _ _ _ h => h) (Or.inl ⟨by kernel_rfl, ?_⟩) (by assumption) ?_); rotate_left 1; (focus (intro w hSw; (try dsimp only at hSw); go_simp; (try with_reducible rfl))); (try simp only [Act.put, sA, sB, sC])))
            refine wpAnyH_done (by kernel_rfl) ?_ _
            go_simp
            clear hHeld
            go_wp2_with fail
            go_meet
            exact ⟨V1.heap.size, rfl, hEV.alloc _, Nat.lt_of_lt_of_le (Nat.lt_succ_self _) (by simp), four_rows (S0 := (A7, n7, c7)) (S1 := (A10, n10, c10)) (S2 := (some ⟨b9, o9 + ar * 11, none⟩, n9 - ar, c9 - ar)) (S3 := (A', 1 + n9, c')) (E.refl _) (HF7.out.e hEV) (hF10.e hE10v) (HDR.out.e hEV) hFl⟩
        case rest =>
          obtain ⟨bq, rfl, hE12, hbq, hall⟩ := hcut
          generalize wc = w12 at *
          have HALL := Lib.hid hall
          have HE12 := Lib.hid hE12
          have HBQ := Lib.hid hbq
          clear hall hE12 hbq
          go_upto_region 17 with fail
          go_loopw [22] (fun ti wr => ∃ i : Nat, i ≤ 4 ∧ ti = .int .i64 i ∧ E w12 wr) (fun ti _ => 4 - (intOf ti).toNat)
          case atStart => exact ⟨0, Nat.zero_le _, rfl, E.refl _⟩
          case round =>
            obtain ⟨i, hi, rfl, hE⟩ := hrel
            by_cases hlt : i < 4
            · have hiI : (i : Int) < 4 := by omega
              obtain ⟨A, n, c, l, hf, hc⟩ := HALL.out i hlt
              have HEW := Lib.hid hE
              have HS := Lib.hid (fun W (hW : E wr W) => show W.cell? ⟨bq, i, none⟩ = some (.slice A n c) ∧ W.cell? ⟨w5.heap.size, 0, none⟩ = some (.int .i64 x.1) ∧ W.cell? ⟨w5.heap.size, 1, none⟩ = some (.int .i64 x.2.1) ∧ W.cell? ⟨w5.heap.size, 2, none⟩ = some (.int .i64 x.2.2) from ⟨((HEW.out.trans hW).cell (p := ⟨bq, i, none⟩) HBQ.out).trans hc, HXB.out W (HE12.out.trans (HEW.out.trans hW))⟩)
              have HV1 := Lib.hid (fun W (hW : E wr W) => oVerify_c A n c l x v W ((hf.e (HEW.out.trans hW)).at_) (by have := hf.n; omega) (fun f h9 => by have := hf.z f h9; omega) HWX.out)
              have HV2 := Lib.hid (fun W (hW : E wr W) => rVerify_c A n c l x v W ((hf.e (HEW.out.trans hW)).at_) (by have := hf.n; omega) (fun f h9 => by have := hf.z f h9; omega) HWX.out)
              unfold ltV at HV1 HV2
              have hEa := (E.refl wr).drew
              clear hf hc hE
              go_upto_region 19 with fail
              refine wp_region_held_drew (S := fun W => W.cell? ⟨bq, i, none⟩ = some (.slice A n c) ∧ W.cell? ⟨w5.heap.size, 0, none⟩ = some (.int .i64 x.1) ∧ W.cell? ⟨w5.heap.size, 1, none⟩ = some (.int .i64 x.2.1) ∧ W.cell? ⟨w5.heap.size, 2, none⟩ = some (.int .i64 x.2.2)) (by kernel_rfl) (HS.out _ hEa) (fun hHeld => ?_)
              (((refine wpAnyH_take (i := 0) (v := ?_) rfl (by kernel_rfl) (by kernel_rfl) (by kernel_rfl) (fun _ _ _ h => h) (Or.inl ⟨by kernel_rfl, ?_⟩) (by assumption) ?_); rotate_left 1; (focus (intro w hSw; (try dsimp only at hSw); go_simp; (try with_reducible rfl))); (try simp only [Act.put, sA, sB, sC])); ((refine wpAnyH_take (i := 1) (v := ?_) rfl (by kernel_rfl) (by kernel_rfl) (by kernel_rfl) (fun _ _ _ h => h) (Or.inl ⟨by kernel_rfl, ?_⟩) (by assumption) ?_); rotate_left 1; (focus (intro w hSw; (try dsimp only at hSw); go_simp; (try with_reducible rfl))); (try simp only [Act.put, sA, sB, sC])); ((refine wpAnyH_take (i := 2) (v := ?_) rfl (by kernel_rfl) (by kernel_rfl) (by kernel_rfl) (fun _ _ _ h => h) (Or.inl ⟨by kernel_rfl, ?_⟩) (by assumption) ?_); rotate_left 1; (focus (intro w hSw; (try dsimp only at hSw); go_simp; (try with_reducible rfl))); (try simp only [Act.put, sA, sB, sC])); ((refine wpAnyH_take (i := 3) (v := ?_) rfl (by kernel_rfl) (by kernel_rfl) (by kernel_rfl) (fun _ _ _ h => h) (Or.inl ⟨by kernel_rfl, ?_⟩) (by assumption) ?_); rotate_left 1; (focus (intro w hSw; (try dsimp only at hSw); go_simp; (try with_reducible rfl))); (try simp only [Act.put, sA, sB, sC])); ((refine wpAnyH_take (i := 4) (v := ?_) rfl (by kernel_rfl) (by kernel_rfl) (by kernel_rfl) (fun _ _ _ h => h) (Or.inl ⟨by kernel_rfl, ?_⟩) (by assumption) ?_); rotate_left 1; (focus (intro w hSw; (try dsimp only at hSw); go_simp; (try with_reducible rfl))); (try simp only [Act.put, sA, sB, sC])); ((refine wpAnyH_take (i := 5) (v := ?_) rfl (by kernel_rfl) (by kernel_rfl) (by kernel_rfl) (fun _ _ _ h => h) (Or.inl ⟨by kernel_rfl, ?_⟩) (by assumption) ?_); rotate_left 1; (focus (intro w hSw; (try dsimp only at hSw); go_simp; (try with_reducible rfl))); (try simp only [Act.put, sA, sB, sC])); ((refine wpAnyH_take (i := 7) (v := ?_) rfl (by kernel_rfl) (by kernel_rfl) (by kernel_rfl) (fun _ _ _ h => h) (Or.inl ⟨by kernel_rfl, ?_⟩) (by assumption) ?_); rotate_left 1; (focus (intro w hSw; (try dsimp only at hSw); go_simp; (try with_reducible rfl))); (try simp only [Act.put, sA, sB, sC])); ((refine wpAnyH_take (i := 8) (v := ?_) rfl (by kernel_rfl) (by kernel_rfl) (by kernel_rfl) (fun _ _ _ h => h) (Or.inl ⟨by kernel_rfl, ?_⟩) (by assumption) ?_); rotate_left 1; (focus (intro w hSw; (try dsimp only at hSw); go_simp; (try with_reducible rfl))); (try simp only [Act.put, sA, sB, sC])); ((refine wpAnyH_take (i := 9) (v := ?_) rfl (by kernel_rfl) (by kernel_rfl) (by kernel_rfl) (fun _ _ _ h => h) (Or.inl ⟨by kernel_rfl, ?_⟩) (by assumption) ?_); rotate_left 1; (focus (intro w hSw; (try dsimp only at hSw); go_simp; (try with_reducible rfl))); (try simp only [Act.put, sA, sB, sC])); ((refine wpAnyH_take (i := 10) (v := ?_) rfl (by kernel_rfl) (by kernel_rfl) (by kernel_rfl) (fun _ _ _ h => h) (Or.inl ⟨by kernel_rfl, ?_⟩) (by assumption) ?_); rotate_left 1; (focus (intro w hSw; (try dsimp only at hSw); go_simp; (try with_reducible rfl))); (try simp only [Act.put, sA, sB, sC])); ((refine wpAnyH_take (i := 11) (v := ?_) rfl (by kernel_rfl) (by kernel_rfl) (by kernel_rfl) (fun _ _ _ h => h) (Or.inl ⟨by kernel_rfl, ?_⟩) (by assumption) ?_); rotate_left 1; (focus (intro w hSw; (try dsimp only at hSw); go_simp; (try with_reducible rfl))); (try simp only [Act.put, sA, sB, sC])); ((refine wpAnyH_take (i := 12) (v := ?_) rfl (by kernel_rfl) (by kernel_rfl) (by kernel_rfl) (fun _ _ _ h => h) (Or.inl ⟨by kernel_rfl, ?_⟩) (by assumption) ?_); rotate_left 1; (focus (intro w hSw; (try dsimp only at hSw); go_simp; (try with_reducible rfl))); (try simp only [Act.put, sA, sB, sC])))
              (((refine wpAnyH_ready (rs := [6]) (by kernel_rfl) (by simp) ?_); (refine AllReadyH.cons rfl (fun K hK => ?_) AllReadyH.nil); (rw [if_pos (by kernel_rfl)]); go_simp))
              refine (HV1.out _ hEa).mono ?_
              rintro e wn ⟨r, hr, rfl, hEn⟩
              have HR := Lib.hid hr
              replace hEa := hEa.trans hEn
              refine hK _ _ (HS.out _ hEa) (fun hh => ?_)
              clear hK K hHeld
              have hHeld := hh
              clear hh hEn hr
              (try simp only [List.getElem_toArray, List.getElem_cons_succ, List.getElem_cons_zero, Act.put, sA, sB, sC])
              (((refine wpAnyH_ready (rs := [13]) (by kernel_rfl) (by simp) ?_); (refine AllReadyH.cons rfl (fun K hK => ?_) AllReadyH.nil); (rw [if_pos (by kernel_rfl)]); go_simp))
              refine (HV2.out _ hEa).mono ?_
              rintro e wn ⟨r2, hr2, rfl, hEn⟩
              obtain rfl := VerE.inj HR.out hr2
              replace hEa := hEa.trans hEn
              refine hK _ _ (HS.out _ hEa) (fun hh => ?_)
              clear hK K hHeld
              have hHeld := hh
              clear hh hEn hr2
              (try simp only [List.getElem_toArray, List.getElem_cons_succ, List.getElem_cons_zero, Act.put, sA, sB, sC])
              (((refine wpAnyH_take (i := 14) (v := ?_) rfl (by kernel_rfl) (by kernel_rfl) (by kernel_rfl) (fun _ _ _ h => h) (Or.inl ⟨by kernel_rfl, ?_⟩) (by assumption) ?_); rotate_left 1; (focus (intro w hSw; (try dsimp only at hSw); go_simp; (try with_reducible rfl))); (try simp only [Act.put, sA, sB, sC])))
              refine wpAnyH_done (by kernel_rfl) ?_ _
              go_simp
              clear hHeld
              go_wp2_with fail
              go_roundw
              case rel => exact ⟨i + 1, by omega, by go_num, HEW.out.trans hEa⟩
              case measure => simp [intOf]; omega
            · have HEF := Lib.hid ((HE1.out.trans HEND.out).trans (HE12.out.trans hE))
              clear hE
              go_wp2_with (go_at_call 11; refine (HLV.out _).mono ?_; rintro e wn ⟨rfl, hEn⟩)
              go_ret
              exact ⟨rfl, HEF.out.trans hEn⟩
end Go.Proofs.YtmeplpiamkaniaaGreat
