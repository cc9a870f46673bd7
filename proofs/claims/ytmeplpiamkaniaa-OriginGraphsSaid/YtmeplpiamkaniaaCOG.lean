/- Lemmas of the claim, joined: LawOG. No condition. -/
import Derived.Test.YtmeplpiamkaniaaNM
import Derived.Test.YtmeplpiamkaniaaNI
import Derived.Test.YtmeplpiamkaniaaNN
import Derived.Test.YtmeplpiamkaniaaNK
import Derived.Test.YtmeplpiamkaniaaNS
namespace Go.Proofs.Ytmeplpiamkaniaa
set_option linter.unusedVariables false
set_option linter.unusedSimpArgs false
open Go.RowKit
structure Few (W : World) (S : Sl) (l : List Fl) : Prop where
  at_ : FlowsAt W S.1 S.2.1 S.2.2 l
  n : S.2.1 ≤ 10
  z : ∀ f ∈ l, f.parts.length ≤ 20 ∧ f.made.length ≤ 20
theorem Few.e {W W' : World} {S : Sl} {l : List Fl} (h : Few W S l) (hE : E W W') : Few W' S l := ⟨h.at_.e hE, h.n, h.z⟩
def NewRet2 (w : World) (fs : List Fl) (e : Ending) (w' : World) : Prop :=
  ∃ r gp, NewE fs r ∧ E w w' ∧ e = .returned (.tuple #[.pointer gp, .int .i64 r]) ∧ ((r ≠ 0 ∧ gp = none) ∨ (r = 0 ∧ ∃ g X, gp = some ⟨g, 0, none⟩ ∧ GraphAt w' X g fs ∧ ∀ i, X i → w.heap.size ≤ i))
theorem NewRet.two {w : World} {fs : List Fl} {e : Ending} {w' : World} (h : NewRet w fs e w') : NewRet2 w fs e w' := by
  obtain ⟨r, hr, hE, h⟩ := h
  rcases h with ⟨h0, rfl⟩ | ⟨rfl, g, X, rfl, hG, hX⟩
  · exact ⟨r, none, hr, hE, rfl, .inl ⟨h0, rfl⟩⟩
  · exact ⟨0, _, hr, hE, rfl, .inr ⟨rfl, g, X, rfl, hG, hX⟩⟩
theorem new_few (W : World) (S : Sl) (l : List Fl) (h : Few W S l) : Calls Try.prog 10 #[.slice S.1 S.2.1 S.2.2] W (NewRet2 W l) :=
  (new_c S.1 S.2.1 S.2.2 l W h.at_ (by have := h.n; omega) (fun f hf => by have := (h.z f hf).2; omega)).mono fun _ _ h => h.two
theorem check_few (W : World) (S : Sl) (l : List Fl) (h : Few W S l) : Calls Try.prog 31 #[.slice S.1 S.2.1 S.2.2] W (RetNewE W l) :=
  check_c S.1 S.2.1 S.2.2 l W h.at_ (by have := h.n; omega) (fun f hf => by have := h.z f hf; omega)
theorem wrap_wf (x : Int) : (Lit.int .i64 (IntKind.i64.wrap x)).wf = true := wf_of_i64 (by rw [IntKind.wrap_i64]; omega) (by rw [IntKind.wrap_i64]; omega)
theorem tdiv_wf {x : Int} (h : (Lit.int .i64 x).wf = true) (k : Int) (hk : 0 < k) : (Lit.int .i64 (x.tdiv k)).wf = true := by
  obtain ⟨h1, h2⟩ := wf_i64 h
  have h3 : (x.tdiv k).natAbs ≤ x.natAbs := by rw [Int.natAbs_tdiv]; exact Nat.div_le_self _ _
  rcases Int.le_total 0 x with h0 | h0
  · have h4 : 0 ≤ x.tdiv k := Int.tdiv_nonneg h0 (by omega)
    exact wf_of_i64 (by omega) (by omega)
  · exact wf_of_i64 (by omega) (by
      have : x.tdiv k ≤ 0 := by
        have h5 : 0 ≤ (-x).tdiv k := Int.tdiv_nonneg (by omega) (by omega)
        rw [Int.neg_tdiv] at h5; omega
      omega)
theorem neg_none {l : List Fl} (h : GOk l) : getF l (-1) = none := by
  rw [getF_none]
  intro f hf e
  have := (okF_iff.1 (h.ok f hf)).2.1
  omega
set_option linter.unusedSimpArgs false in
set_option maxHeartbeats 16000000 in
set_option maxRecDepth 100000 in
theorem originGraphs_w (A0 : Option Addr) (n0 c0 : Nat) (g0 : List Fl) (A1 : Option Addr) (n1 c1 : Nat) (l1 : List Int) (at_ which by_ : Int) (w : World) (h0 : FlowsAt w A0 n0 c0 g0) (h1 : Nums .i64 w A1 n1 c1 l1) (hat : (Lit.int .i64 at_).wf = true) (hwh : (Lit.int .i64 which).wf = true) (hby : (Lit.int .i64 by_).wf = true) :
    Calls Try.prog 7 #[.slice A0 n0 c0, .slice A1 n1 c1, .int .i64 at_, .int .i64 which, .int .i64 by_] w (RetK w true) := by
  have HFL := Lib.hid (refFlows_c A1 n1 c1 l1 w h1)
  have H0 := Lib.hid h0
  have HAT := Lib.hid hat
  have HWH := Lib.hid hwh
  have HBY := Lib.hid hby
  have HLV := Lib.hid (fun W => lives15_c W)
  clear h0 h1 hat hwh hby
  go_enter Try.func7, Try.ntmps7
  go_upto_region 2 with (go_at_call 9; refine HFL.out.mono ?_; rintro e w1 ⟨fs, A7, n7, c7, hGen, hn9, rfl, hF, hE1⟩)
  have HF := Lib.hid (show Few w1 (A7, n7, c7) fs from ⟨hF, (by show n7 ≤ 10; omega), fun f hf => ⟨by have := hGen.pl f hf; omega, by have := hGen.ml f hf; omega⟩⟩)
  have HE1 := Lib.hid hE1
  have HSP := Lib.hid (spoilt_c A7 n7 c7 fs at_ which by_ 9 9 w1 hF (by omega) (fun f hf => ⟨hGen.pl f hf, hGen.ml f hf⟩) (by omega) HAT.out HWH.out HBY.out)
  have HN9 := Lib.hid hn9
  clear hGen hF hE1 hn9 HFL
  go_upto_region 3 with (go_at_call 29; refine HSP.out.mono ?_; rintro e w2 ⟨fs2, A8, n8, c8, hn8, hz8, rfl, hF8, hE2⟩)
  have HF8 := Lib.hid (show Few w2 (A8, n8, c8) fs2 from ⟨hF8, (by have := HN9.out; show n8 ≤ 10; omega), fun f hf => by have := hz8 f hf; omega⟩)
  have HZ8 := Lib.hid hz8
  have HE2 := Lib.hid hE2
  have HN8 := Lib.hid hn8
  have HRW := Lib.hid (raw_c A0 n0 c0 g0 w2 (H0.out.e (HE1.out.trans hE2)))
  have HSP2 := Lib.hid (fun W (hE : E w2 W) a b c (ha : (Lit.int .i64 a).wf = true) (hb : (Lit.int .i64 b).wf = true) (hc : (Lit.int .i64 c).wf = true) => spoilt_c A8 n8 c8 fs2 a b c 10 10 W (HF8.out.at_.e hE) (by have h9 : n8 ≤ 10 := HF8.out.n; omega) (fun f hf => HZ8.out f hf) (by omega) ha hb hc)
  clear hF8 hz8 hE2 hn8 HSP
  go_upto_region 4 with (first
    | (go_at_call 30; refine HRW.out.mono ?_; rintro e w3 ⟨fs3, A9, n9, c9, hn9, hz9, rfl, hF9, hE3⟩; have HF9 := Lib.hid (show Few w3 (A9, n9, c9) fs3 from ⟨hF9, (by show n9 ≤ 10; omega), fun f hf => (by have := hz9 f hf; omega)⟩); have HE3 := Lib.hid hE3; clear hn9 hz9 hF9 hE3)
    | (go_at_call 29; refine Calls.mono (HSP2.out _ HE3.out _ _ _ ?ha ?hb ?hc) ?hm; (case ha => (first | exact wrap64_wf _ | exact wrap_wf _ | exact tdiv_wf HAT.out _ (by omega))); (case hb => (first | exact wrap64_wf _ | exact wrap_wf _ | exact tdiv_wf HWH.out _ (by omega))); (case hc => (first | exact wrap64_wf _ | exact wrap_wf _ | exact tdiv_wf HBY.out _ (by omega))); rintro e w4 ⟨fs4, A10, n10, c10, hn10, hz10, rfl, hF10, hE4⟩; have HF10 := Lib.hid (show Few w4 (A10, n10, c10) fs4 from ⟨hF10, (by have h9 : n8 ≤ 10 := HF8.out.n; show n10 ≤ 10; omega), fun f hf => (by have := hz10 f hf; omega)⟩); have HE4 := Lib.hid hE4; clear hn10 hz10 hF10 hE4))
  obtain ⟨w5, hw5⟩ : ∃ w5, w4.alloc (.cells #[.slice A9 n9 c9, .slice A7 n7 c7, .slice A8 n8 c8, .slice A10 n10 c10] 23) = w5 := ⟨_, rfl⟩
  have hE5 : E w4 w5 := by rw [← hw5]; exact (E.refl w4).alloc _
  have hB5 : w5.heap[w4.heap.size]? = some (.cells #[.slice A9 n9 c9, .slice A7 n7 c7, .slice A8 n8 c8, .slice A10 n10 c10] 23 (0, 0)) := by rw [← hw5]; exact heap_alloc_new w4 _
  have HALL := Lib.hid (show ∀ i : Nat, i < 4 → ∃ (A : Option Addr) (n c : Nat) (l : List Fl), Few w5 (A, n, c) l ∧ ∀ W, E w5 W → W.cell? ⟨w4.heap.size, i, none⟩ = some (.slice A n c) from fun i hi => by
    have hc := fun W (hE : E w5 W) => cell_of_row W w4.heap.size i _ _ _ ((hE.block (lt_blk hB5)).trans hB5)
    obtain rfl | rfl | rfl | rfl : i = 0 ∨ i = 1 ∨ i = 2 ∨ i = 3 := by omega
    · exact ⟨A9, n9, c9, fs3, HF9.out.e (HE4.out.trans hE5), fun W hE => (hc W hE).trans rfl⟩
    · exact ⟨A7, n7, c7, fs, HF.out.e ((HE2.out.trans HE3.out).trans (HE4.out.trans hE5)), fun W hE => (hc W hE).trans rfl⟩
    · exact ⟨A8, n8, c8, fs2, HF8.out.e (HE3.out.trans (HE4.out.trans hE5)), fun W hE => (hc W hE).trans rfl⟩
    · exact ⟨A10, n10, c10, fs4, HF10.out.e hE5, fun W hE => (hc W hE).trans rfl⟩)
  have HE15 := Lib.hid (((HE1.out.trans HE2.out).trans HE3.out).trans (HE4.out.trans hE5))
  go_upto_region 5 with fail
  try rw [hw5]
  clear hw5 hE5 hB5 HF HSP2 HRW H0
  generalize w4.heap.size = bq at *
  go_loopw [14] (fun ti wr => ∃ i : Nat, i ≤ 4 ∧ ti = .int .i64 i ∧ E w5 wr) (fun ti _ => 4 - (intOf ti).toNat)
  case atStart => exact ⟨0, Nat.zero_le _, rfl, E.refl _⟩
  case round =>
    obtain ⟨i, hi, rfl, hE⟩ := hrel
    have HE := Lib.hid hE
    by_cases hlt : i < 4
    · have hiI : (i : Int) < 4 := by omega
      obtain ⟨A, n, c, l, hf, hc⟩ := HALL.out i hlt
      have HFW := Lib.hid (hf.e hE)
      have HC := Lib.hid (fun W (hW : E wr W) => hc W (hE.trans hW))
      have HNW := Lib.hid (show Calls Try.prog 10 #[.slice A n c] wr (NewRet2 wr l) from new_few wr (A, n, c) l HFW.out)
      have HCK := Lib.hid (fun W (hW : E wr W) => show Calls Try.prog 31 #[.slice A n c] W (RetNewE W l) from check_few W (A, n, c) l (HFW.out.e hW))
      have d0 := HC.out wr (E.refl wr)
      have hn63 := HFW.out.at_.n63
      simp only at hn63
      have HLN := Lib.hid (show l.length = n from HFW.out.at_.len)
      clear hf hc hE
      go_upto_region 8 with (go_at_call 10; refine HNW.out.mono ?_; rintro e w6 ⟨r, gp, hr, hE6, rfl, hor⟩)
      have HR := Lib.hid hr
      have HE6 := Lib.hid hE6
      have d6 := HC.out _ hE6
      have hck : Calls Try.prog 31 #[.slice A n c] w6 (fun e w' => e = .returned (.int .i64 r) ∧ E w6 w') := (HCK.out _ hE6).mono (by
        rintro e w' ⟨r2, hr2, rfl, hE⟩
        exact ⟨by rw [hr2.inj HR.out], hE⟩)
      have HCR := Lib.hid hck
      clear hck hr hE6 HNW d0
      rcases hor with ⟨hr0, rfl⟩ | ⟨rfl, g, X, rfl, hG, hX⟩
      · have hrb : (r != 0) = true := by simpa using hr0
        have HR0 := Lib.hid hr0
        clear hr0
        go_upto_region 10 with (go_at_call 31; refine HCR.out.mono ?_; rintro e w7 ⟨rfl, hE7⟩; have d7 := HC.out _ (HE6.out.trans hE7))
        have HE67 := Lib.hid hE7
        have HE7 := Lib.hid (HE6.out.trans hE7)
        clear hE7 d6
        go_upto_region 11 with fail
        clear d7
        obtain ⟨wo, hwo⟩ : ∃ wo, wo = wr := ⟨_, rfl⟩
        subst hwo
        go_loopw [17] (fun tk wq => tk = .int .i64 0 ∧ E wo wq) (fun _ _ => 0)
        case atStart => exact ⟨rfl, HE7.out⟩
        case round =>
          obtain ⟨rfl, hEq⟩ := hrel
          have HEQ := Lib.hid hEq
          have d8 := HC.out _ hEq
          clear hEq
          rcases Nat.eq_zero_or_pos n with h0 | h0
          · have h0I : ¬ (0 : Int) < (n : Int) := by omega
            have h0b : decide ((0 : Int) < (n : Int)) = false := by simpa using h0I
            have H00 := Lib.hid h0
            clear h0
            go_wp2_with fail
            go_roundw
            case rel => exact ⟨i + 1, by omega, by go_num, HE.out.trans HEQ.out⟩
            case measure => simp [intOf]; omega
          · have h0I : (0 : Int) < (n : Int) := by omega
            have H00 := Lib.hid h0
            clear h0
            go_wp2_with fail
            go_roundw
            case rel => exact ⟨i + 1, by omega, by go_num, HE.out.trans HEQ.out⟩
            case measure => simp [intOf]; omega
      · have HG := Lib.hid hG
        have HX := Lib.hid hX
        clear hG hX
        go_upto_region 10 with (go_at_call 31; refine HCR.out.mono ?_; rintro e w7 ⟨rfl, hE7⟩; have d7 := HC.out _ (HE6.out.trans hE7))
        have HE67 := Lib.hid hE7
        have HE7 := Lib.hid (HE6.out.trans hE7)
        clear hE7 d6
        go_upto_region 11 with fail
        clear d7
        have HG7 := Lib.hid (fun W (hW : E w7 W) => (HG.out.e (show E w6 w7 from HE67.out)).e hW)
        have HOK := Lib.hid HG.out.ok
        obtain ⟨wo, hwo⟩ : ∃ wo, wo = wr := ⟨_, rfl⟩
        subst hwo
        go_loopw [17] (fun tk wq => ∃ k : Nat, k ≤ n ∧ tk = .int .i64 k ∧ E w7 wq) (fun tk _ => n - (intOf tk).toNat)
        case atStart => exact ⟨0, Nat.zero_le _, rfl, E.refl _⟩
        case round =>
          obtain ⟨k, hk, rfl, hEq⟩ := hrel
          have HEQ := Lib.hid hEq
          have HER := Lib.hid (HE7.out.trans hEq)
          have d8 := HC.out _ HER.out
          by_cases hkn : k < n
          · have hkI : (k : Int) < (n : Int) := by omega
            obtain ⟨b, o, f, s, t, hA, hb, hf, hwf, hcf, hB⟩ := (HFW.out.e HER.out).at_.get hkn
            simp only at hA
            have hgf := (HOK.out.ids.get hf).2
            have HFC := Lib.hid (gFlow_c X g l f.id wr (HG7.out wr hEq) (fun f hf => by have := HFW.out.z f hf; omega) hwf.1)
            have HGF := Lib.hid hgf
            have HB := Lib.hid hB
            have HCF := Lib.hid (fun W (hW : E wr W) => hcf.e hW hb)
            have HWF := Lib.hid hwf
            subst hA
            have q0 := hcf.1
            clear hf hgf hB hcf hwf hb hEq
            go_upto_region 14 with (go_at_call 32; refine HFC.out.mono ?_; rintro e w8 ⟨hE8, hor⟩; rcases hor with ⟨hn9, _⟩ | ⟨f9, Ax, nx, cx, Ay, ny, cy, hg9, rfl, hx, hy, _⟩; (exfalso; rw [HGF.out] at hn9; cases hn9); (rw [HGF.out] at hg9; injection hg9 with hg9; subst hg9; unfold flV))
            obtain ⟨w9, hw9⟩ : ∃ w9, w8.alloc (.cells #[.int .i64 f.id, .int .i64 f.step, .int .i64 f.kind, .int .i64 f.tick, .int .i64 f.actor, .int .i64 f.frm, .int .i64 f.to, .int .i64 f.item, .int .i64 f.n, .slice Ax nx cx, .slice Ay ny cy] 47) = w9 := ⟨_, rfl⟩
            have hE9 : E w8 w9 := by rw [← hw9]; exact (E.refl w8).alloc _
            have HBX := Lib.hid (show FlBox w9 w8.heap.size f (Ax, nx, cx) (Ay, ny, cy) by rw [← hw9]; exact FlBox.new w8 f (Ax, nx, cx) (Ay, ny, cy))
            have HE9 := Lib.hid (hE8.trans hE9)
            have HSF := Lib.hid (fun W (hW : E w9 W) => sameF_c f Ax nx cx Ay ny cy s.1 s.2.1 s.2.2 t.1 t.2.1 t.2.2 W ⟨hx.e (hE9.trans hW), hy.e (hE9.trans hW)⟩ (HB.out.e ((hE8.trans hE9).trans hW)))
            unfold flV at HSF
            try rw [hw9]
            have HS := Lib.hid (fun W (hW : E w9 W) => show (W.cell? ⟨w8.heap.size, 0, none⟩ = some (.int .i64 f.id) ∧ W.cell? ⟨w8.heap.size, 1, none⟩ = some (.int .i64 f.step) ∧ W.cell? ⟨w8.heap.size, 2, none⟩ = some (.int .i64 f.kind) ∧ W.cell? ⟨w8.heap.size, 3, none⟩ = some (.int .i64 f.tick) ∧ W.cell? ⟨w8.heap.size, 4, none⟩ = some (.int .i64 f.actor) ∧ W.cell? ⟨w8.heap.size, 5, none⟩ = some (.int .i64 f.frm) ∧ W.cell? ⟨w8.heap.size, 6, none⟩ = some (.int .i64 f.to) ∧ W.cell? ⟨w8.heap.size, 7, none⟩ = some (.int .i64 f.item) ∧ W.cell? ⟨w8.heap.size, 8, none⟩ = some (.int .i64 f.n) ∧ W.cell? ⟨w8.heap.size, 9, none⟩ = some (.slice Ax nx cx) ∧ W.cell? ⟨w8.heap.size, 10, none⟩ = some (.slice Ay ny cy)) ∧ W.cell? ⟨bq, i, none⟩ = some (.slice (some ⟨b, o, none⟩) n c) ∧ (W.cell? ⟨b, o + k * 11, none⟩ = some (.int .i64 f.id) ∧ W.cell? ⟨b, o + k * 11 + 1, none⟩ = some (.int .i64 f.step) ∧ W.cell? ⟨b, o + k * 11 + 2, none⟩ = some (.int .i64 f.kind) ∧ W.cell? ⟨b, o + k * 11 + 3, none⟩ = some (.int .i64 f.tick) ∧ W.cell? ⟨b, o + k * 11 + 4, none⟩ = some (.int .i64 f.actor) ∧ W.cell? ⟨b, o + k * 11 + 5, none⟩ = some (.int .i64 f.frm) ∧ W.cell? ⟨b, o + k * 11 + 6, none⟩ = some (.int .i64 f.to) ∧ W.cell? ⟨b, o + k * 11 + 7, none⟩ = some (.int .i64 f.item) ∧ W.cell? ⟨b, o + k * 11 + 8, none⟩ = some (.int .i64 f.n) ∧ W.cell? ⟨b, o + k * 11 + 9, none⟩ = some (.slice s.1 s.2.1 s.2.2) ∧ W.cell? ⟨b, o + k * 11 + 10, none⟩ = some (.slice t.1 t.2.1 t.2.2)) from ⟨(HBX.out.e hW).cells0, HC.out W (HER.out.trans (HE9.out.trans hW)), HCF.out W (HE9.out.trans hW)⟩)
            have hEa := (E.refl w9).drew
            clear hw9 hE8 hE9 hx hy q0 d8
            generalize w8.heap.size = bx at *
            refine wp_region_held_drew (S := (fun W => (W.cell? ⟨bx, 0, none⟩ = some (.int .i64 f.id) ∧ W.cell? ⟨bx, 1, none⟩ = some (.int .i64 f.step) ∧ W.cell? ⟨bx, 2, none⟩ = some (.int .i64 f.kind) ∧ W.cell? ⟨bx, 3, none⟩ = some (.int .i64 f.tick) ∧ W.cell? ⟨bx, 4, none⟩ = some (.int .i64 f.actor) ∧ W.cell? ⟨bx, 5, none⟩ = some (.int .i64 f.frm) ∧ W.cell? ⟨bx, 6, none⟩ = some (.int .i64 f.to) ∧ W.cell? ⟨bx, 7, none⟩ = some (.int .i64 f.item) ∧ W.cell? ⟨bx, 8, none⟩ = some (.int .i64 f.n) ∧ W.cell? ⟨bx, 9, none⟩ = some (.slice Ax nx cx) ∧ W.cell? ⟨bx, 10, none⟩ = some (.slice Ay ny cy)) ∧ W.cell? ⟨bq, i, none⟩ = some (.slice (some ⟨b, o, none⟩) n c) ∧ (W.cell? ⟨b, o + k * 11, none⟩ = some (.int .i64 f.id) ∧ W.cell? ⟨b, o + k * 11 + 1, none⟩ = some (.int .i64 f.step) ∧ W.cell? ⟨b, o + k * 11 + 2, none⟩ = some (.int .i64 f.kind) ∧ W.cell? ⟨b, o + k * 11 + 3, none⟩ = some (.int .i64 f.tick) ∧ W.cell? ⟨b, o + k * 11 + 4, none⟩ = some (.int .i64 f.actor) ∧ W.cell? ⟨b, o + k * 11 + 5, none⟩ = some (.int .i64 f.frm) ∧ W.cell? ⟨b, o + k * 11 + 6, none⟩ = some (.int .i64 f.to) ∧ W.cell? ⟨b, o + k * 11 + 7, none⟩ = some (.int .i64 f.item) ∧ W.cell? ⟨b, o + k * 11 + 8, none⟩ = some (.int .i64 f.n) ∧ W.cell? ⟨b, o + k * 11 + 9, none⟩ = some (.slice s.1 s.2.1 s.2.2) ∧ W.cell? ⟨b, o + k * 11 + 10, none⟩ = some (.slice t.1 t.2.1 t.2.2)))) (by kernel_rfl) (HS.out _ hEa) (fun hHeld => ?_)
            (((refine wpAnyH_take (i := 0) (v := ?_) rfl (by kernel_rfl) (by kernel_rfl) (by kernel_rfl) (fun _ _ _ h => h) (Or.inl ⟨by kernel_rfl, ?_⟩) (by assumption) ?_); rotate_left 1; (focus (intro w hSw; (try dsimp only at hSw); go_simp; (try with_reducible rfl))); (try simp only [Act.put, List.setIfInBounds_toArray, List.set_cons_zero, List.set_cons_succ])); ((refine wpAnyH_take (i := 1) (v := ?_) rfl (by kernel_rfl) (by kernel_rfl) (by kernel_rfl) (fun _ _ _ h => h) (Or.inl ⟨by kernel_rfl, ?_⟩) (by assumption) ?_); rotate_left 1; (focus (intro w hSw; (try dsimp only at hSw); go_simp; (try with_reducible rfl))); (try simp only [Act.put, List.setIfInBounds_toArray, List.set_cons_zero, List.set_cons_succ])); ((refine wpAnyH_take (i := 2) (v := ?_) rfl (by kernel_rfl) (by kernel_rfl) (by kernel_rfl) (fun _ _ _ h => h) (Or.inl ⟨by kernel_rfl, ?_⟩) (by assumption) ?_); rotate_left 1; (focus (intro w hSw; (try dsimp only at hSw); go_simp; (try with_reducible rfl))); (try simp only [Act.put, List.setIfInBounds_toArray, List.set_cons_zero, List.set_cons_succ])); ((refine wpAnyH_take (i := 3) (v := ?_) rfl (by kernel_rfl) (by kernel_rfl) (by kernel_rfl) (fun _ _ _ h => h) (Or.inl ⟨by kernel_rfl, ?_⟩) (by assumption) ?_); rotate_left 1; (focus (intro w hSw; (try dsimp only at hSw); go_simp; (try with_reducible rfl))); (try simp only [Act.put, List.setIfInBounds_toArray, List.set_cons_zero, List.set_cons_succ])); ((refine wpAnyH_take (i := 4) (v := ?_) rfl (by kernel_rfl) (by kernel_rfl) (by kernel_rfl) (fun _ _ _ h => h) (Or.inl ⟨by kernel_rfl, ?_⟩) (by assumption) ?_); rotate_left 1; (focus (intro w hSw; (try dsimp only at hSw); go_simp; (try with_reducible rfl))); (try simp only [Act.put, List.setIfInBounds_toArray, List.set_cons_zero, List.set_cons_succ])); ((refine wpAnyH_take (i := 5) (v := ?_) rfl (by kernel_rfl) (by kernel_rfl) (by kernel_rfl) (fun _ _ _ h => h) (Or.inl ⟨by kernel_rfl, ?_⟩) (by assumption) ?_); rotate_left 1; (focus (intro w hSw; (try dsimp only at hSw); go_simp; (try with_reducible rfl))); (try simp only [Act.put, List.setIfInBounds_toArray, List.set_cons_zero, List.set_cons_succ])); ((refine wpAnyH_take (i := 6) (v := ?_) rfl (by kernel_rfl) (by kernel_rfl) (by kernel_rfl) (fun _ _ _ h => h) (Or.inl ⟨by kernel_rfl, ?_⟩) (by assumption) ?_); rotate_left 1; (focus (intro w hSw; (try dsimp only at hSw); go_simp; (try with_reducible rfl))); (try simp only [Act.put, List.setIfInBounds_toArray, List.set_cons_zero, List.set_cons_succ])); ((refine wpAnyH_take (i := 7) (v := ?_) rfl (by kernel_rfl) (by kernel_rfl) (by kernel_rfl) (fun _ _ _ h => h) (Or.inl ⟨by kernel_rfl, ?_⟩) (by assumption) ?_); rotate_left 1; (focus (intro w hSw; (try dsimp only at hSw); go_simp; (try with_reducible rfl))); (try simp only [Act.put, List.setIfInBounds_toArray, List.set_cons_zero, List.set_cons_succ])); ((refine wpAnyH_take (i := 8) (v := ?_) rfl (by kernel_rfl) (by kernel_rfl) (by kernel_rfl) (fun _ _ _ h => h) (Or.inl ⟨by kernel_rfl, ?_⟩) (by assumption) ?_); rotate_left 1; (focus (intro w hSw; (try dsimp only at hSw); go_simp; (try with_reducible rfl))); (try simp only [Act.put, List.setIfInBounds_toArray, List.set_cons_zero, List.set_cons_succ])); ((refine wpAnyH_take (i := 9) (v := ?_) rfl (by kernel_rfl) (by kernel_rfl) (by kernel_rfl) (fun _ _ _ h => h) (Or.inl ⟨by kernel_rfl, ?_⟩) (by assumption) ?_); rotate_left 1; (focus (intro w hSw; (try dsimp only at hSw); go_simp; (try with_reducible rfl))); (try simp only [Act.put, List.setIfInBounds_toArray, List.set_cons_zero, List.set_cons_succ])); ((refine wpAnyH_take (i := 10) (v := ?_) rfl (by kernel_rfl) (by kernel_rfl) (by kernel_rfl) (fun _ _ _ h => h) (Or.inl ⟨by kernel_rfl, ?_⟩) (by assumption) ?_); rotate_left 1; (focus (intro w hSw; (try dsimp only at hSw); go_simp; (try with_reducible rfl))); (try simp only [Act.put, List.setIfInBounds_toArray, List.set_cons_zero, List.set_cons_succ])))
            (((refine wpAnyH_ready (rs := [11]) (by kernel_rfl) (by simp) ?_); (refine AllReadyH.cons rfl (fun K hK => ?_) AllReadyH.nil); (rw [if_pos (by kernel_rfl)]); go_simp))
            refine (HSF.out _ hEa).mono ?_
            rintro e wn ⟨rfl, hEn⟩
            replace hEa := hEa.trans hEn
            refine hK _ _ (HS.out _ hEa) (fun hh => ?_)
            clear hK K hHeld
            have hHeld := hh
            clear hh hEn
            (try simp only [List.getElem_toArray, List.getElem_cons_succ, List.getElem_cons_zero, Act.put, List.setIfInBounds_toArray, List.set_cons_zero, List.set_cons_succ])
            (((refine wpAnyH_take (i := 12) (v := ?_) rfl (by kernel_rfl) (by kernel_rfl) (by kernel_rfl) (fun _ _ _ h => h) (Or.inl ⟨by kernel_rfl, ?_⟩) (by assumption) ?_); rotate_left 1; (focus (intro w hSw; (try dsimp only at hSw); go_simp; (try with_reducible rfl))); (try simp only [Act.put, List.setIfInBounds_toArray, List.set_cons_zero, List.set_cons_succ])); ((refine wpAnyH_take (i := 13) (v := ?_) rfl (by kernel_rfl) (by kernel_rfl) (by kernel_rfl) (fun _ _ _ h => h) (Or.inl ⟨by kernel_rfl, ?_⟩) (by assumption) ?_); rotate_left 1; (focus (intro w hSw; (try dsimp only at hSw); go_simp; (try with_reducible rfl))); (try simp only [Act.put, List.setIfInBounds_toArray, List.set_cons_zero, List.set_cons_succ])))
            refine wpAnyH_done (by kernel_rfl) ?_ _
            go_simp
            clear hHeld
            go_wp2_with fail
            go_roundw
            case rel => exact ⟨k + 1, by omega, by go_num, HEQ.out.trans (HE9.out.trans hEa)⟩
            case measure => simp [intOf]; omega
          · have hkI : ¬ (k : Int) < (n : Int) := by omega
            have hkb : decide ((k : Int) < (n : Int)) = false := by simpa using hkI
            have HFC := Lib.hid (gFlow_c X g l (-1) wr (HG7.out wr hEq) (fun f hf => by have := HFW.out.z f hf; omega) (by decide))
            have HNN := Lib.hid (neg_none HOK.out)
            obtain ⟨hh, hhk⟩ := HOK.out.hash
            have HHS := Lib.hid (fun W (hW : E wr W) => show Calls Try.prog 28 #[.pointer (some ⟨g, 0, none⟩), .int .i64 (-1)] W (fun e w' => ∃ v, e = .returned (.tuple #[.int .u64 v, .bool false]) ∧ E wo w') from by
              obtain ⟨p, hGp⟩ := HG7.out W (hEq.trans hW)
              refine (gHash_c X g l (-1) p hh W hGp hhk (fun f hf => by have := HFW.out.z f hf; omega) (by have := HLN.out; have h9 : n ≤ 10 := HFW.out.n; omega) (by decide)).mono ?_
              rintro e w' ⟨he, X', _, hX', _⟩
              rw [HNN.out] at he
              exact ⟨_, he, e_ex (HER.out.trans hW) hX' (fun j hj => HX.out j hj)⟩)
            clear hEq hkn hhk
            go_upto_region 17 with fail
            go_upto_region 18 with (go_at_call 32; refine HFC.out.mono ?_; rintro e w8 ⟨hE8, hor⟩; rcases hor with ⟨_, rfl⟩ | ⟨f9, Ax, nx, cx, Ay, ny, cy, hg9, _⟩; rotate_left 1; (exfalso; rw [HNN.out] at hg9; cases hg9); (unfold flV zeroFl))
            have HE8 := Lib.hid hE8
            clear hE8
            go_wp2_with (go_at_call 28; refine (HHS.out _ (HE8.out.alloc _)).mono ?_; rintro e w10 ⟨hv, rfl, hE10⟩)
            go_roundw
            case rel => exact ⟨i + 1, by omega, by go_num, HE.out.trans hE10⟩
            case measure => simp [intOf]; omega
    · have HE8 := Lib.hid (HE15.out.trans HE.out)
      clear hE
      go_wp2_with (go_at_call 16; refine (HLV.out _).mono ?_; rintro e w9 ⟨rfl, hE9⟩)
      go_ret
      exact ⟨rfl, HE8.out.trans hE9⟩
end Go.Proofs.Ytmeplpiamkaniaa
