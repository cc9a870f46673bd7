/- Lemmas of the claim, joined: GSb GSc. No condition. -/
import Derived.Test.YtmeplpiamkaniaaGreatNE
import Derived.Test.YtmeplpiamkaniaaGreatNB
import Derived.Test.YtmeplpiamkaniaaGreatNA
import Derived.Test.YtmeplpiamkaniaaGreatNS
namespace Go.Proofs.YtmeplpiamkaniaaGreat
set_option linter.unusedVariables false
set_option linter.unusedSimpArgs false
open Go.RowKit
def RetB (w : World) (e : Ending) (w' : World) : Prop := ∃ b, e = .returned (.bool b) ∧ E w w'
theorem RetK.b {w : World} {b : Bool} {e : Ending} {w' : World} (h : RetK w b e w') : RetB w e w' := ⟨b, h.1, h.2⟩
set_option linter.unusedSimpArgs false in
set_option maxHeartbeats 8000000 in
set_option maxRecDepth 100000 in
theorem sameX_c (f h : Fl) (A : Option Addr) (n c : Nat) (A' : Option Addr) (n' c' : Nat) (B : Option Addr) (m d : Nat) (B' : Option Addr) (m' d' : Nat) (w : World) (ha : FlB w f (A, n, c) (A', n', c')) (hb : FlB w h (B, m, d) (B', m', d')) :
    Calls Tryz.prog 43 #[flV f A n c A' n' c', flV h B m d B' m' d'] w (RetB w) := by
  obtain ⟨w1, hw1⟩ : ∃ w1, w.alloc (.cells #[.int .i64 f.id, .int .i64 f.step, .int .i64 f.kind, .int .i64 f.tick, .int .i64 f.actor, .int .i64 f.frm, .int .i64 f.to, .int .i64 f.item, .int .i64 f.n, .slice A n c, .slice A' n' c'] 43) = w1 := ⟨_, rfl⟩
  have hE1 : E w w1 := by rw [← hw1]; exact (E.refl w).alloc _
  have hb1 : FlBox w1 w.heap.size f (A, n, c) (A', n', c') := by rw [← hw1]; exact FlBox.new w f (A, n, c) (A', n', c')
  obtain ⟨w2, hw2⟩ : ∃ w2, w1.alloc (.cells #[.int .i64 h.id, .int .i64 h.step, .int .i64 h.kind, .int .i64 h.tick, .int .i64 h.actor, .int .i64 h.frm, .int .i64 h.to, .int .i64 h.item, .int .i64 h.n, .slice B m d, .slice B' m' d'] 43) = w2 := ⟨_, rfl⟩
  have hE2 : E w1 w2 := by rw [← hw2]; exact (E.refl w1).alloc _
  have hb2 : FlBox w2 w1.heap.size h (B, m, d) (B', m', d') := by rw [← hw2]; exact FlBox.new w1 h (B, m, d) (B', m', d')
  have HB1 := Lib.hid (hb1.e hE2)
  have HB2 := Lib.hid hb2
  have HE2 := Lib.hid (hE1.trans hE2)
  have HA := Lib.hid (fun W (hE : E w2 W) => show LotsAt W A n c f.parts ∧ Nums .i64 W A' n' c' f.made from ⟨ha.1.e ((hE1.trans hE2).trans hE), ha.2.e ((hE1.trans hE2).trans hE)⟩)
  have HB := Lib.hid (fun W (hE : E w2 W) => show LotsAt W B m d h.parts ∧ Nums .i64 W B' m' d' h.made from ⟨hb.1.e ((hE1.trans hE2).trans hE), hb.2.e ((hE1.trans hE2).trans hE)⟩)
  have hn63 : n' ≤ 9223372036854775807 := ha.2.n63
  have hm63 : m' ≤ 9223372036854775807 := hb.2.n63
  have hss := sameL_c A B n c m d f.parts h.parts w2 (HA.out w2 (E.refl _)).1 (HB.out w2 (E.refl _)).1
  obtain ⟨bs, hbs⟩ : ∃ bs, decide (f.parts = h.parts) = bs := ⟨_, rfl⟩
  rw [hbs] at hss
  have HSS := Lib.hid hss
  obtain ⟨_, _, _, _, _, _, _, _, _, x9, x10⟩ := HB1.out.cells0
  obtain ⟨_, _, _, _, _, _, _, _, _, y9, y10⟩ := hb2.cells0
  clear hE1 hE2 hb1 hb2 ha hb hss hbs
  unfold flV
  go_enter Tryz.func43, Tryz.ntmps43
  go_upto_region 1 with fail
  try rw [hw1]
  try rw [hw2]
  clear hw1 hw2
  go_upto_region 2 with (go_at_call 24; refine HSS.out.mono ?_; rintro e w3 ⟨rfl, hE3⟩)
  have HE3 := Lib.hid hE3
  clear x9 x10 y9 y10 hE3 HSS
  obtain ⟨_, _, _, _, _, _, _, _, _, x9, x10⟩ := (HB1.out.e HE3.out).cells0
  obtain ⟨_, _, _, _, _, _, _, _, _, y9, y10⟩ := (HB2.out.e HE3.out).cells0
  cases bs
  · go_wp2_with fail
    go_ret
    exact ⟨_, rfl, HE2.out.trans HE3.out⟩
  by_cases hnm : n' = m'
  · subst hnm
    go_upto_region 5 with fail
    clear x9 x10 y9 y10
    go_loopw [6] (fun ti wr => ∃ k : Nat, k ≤ n' ∧ ti = .int .i64 k ∧ E w3 wr) (fun ti _ => n' - (intOf ti).toNat)
    case atStart => exact ⟨0, Nat.zero_le _, rfl, E.refl _⟩
    case round =>
      obtain ⟨k, hk, rfl, hE⟩ := hrel
      have HE := Lib.hid (HE3.out.trans hE)
      obtain ⟨x0, x1, x2, x3, x4, x5, x6, x7, x8, x9, x10⟩ := (HB1.out.e HE.out).cells0
      obtain ⟨y0, y1, y2, y3, y4, y5, y6, y7, y8, y9, y10⟩ := (HB2.out.e HE.out).cells0
      by_cases hlt : k < n'
      · obtain ⟨b, o, v, hAe, _, hv, hwv, hcv⟩ := (HA.out wr HE.out).2.get hlt
        obtain ⟨b2, o2, v2, hBe, _, hv2, hwv2, hcv2⟩ := (HB.out wr HE.out).2.get hlt
        have hkI : (k : Int) < (n' : Int) := by omega
        rw [hAe] at x10
        rw [hBe] at y10
        have HER := Lib.hid hE
        clear x0 x1 x2 x3 x4 x5 x6 x7 x8 y0 y1 y2 y3 y4 y5 y6 y7 y8 hv hv2 hAe hBe x9 y9 hE
        by_cases hvv : v = v2
        · have hvb : (v != v2) = false := by simpa using hvv
          have HVV := Lib.hid hvv
          clear hvv
          go_upto_region 7 with fail
          (refine wp_region_quiet_lit (by kernel_rfl) (by kernel_rfl) ?_; (repeat (first | ((with_reducible refine wpQuiet_step (fun K hK => ?_)); go_simp; (with_reducible refine hK _ ?_); clear hK K) | ((with_reducible refine wpQuiet_off (by kernel_rfl) (fun K hK => ?_)); go_simp; (with_reducible refine hK _ ?_); clear hK K))); (with_reducible refine wpQuiet_nil ?_); intro _ hw'; obtain ⟨nq, hw''⟩ := hw'; subst hw'')
          go_wp2_with fail
          go_roundw
          case rel => exact ⟨k + 1, by omega, by go_num, HER.out.drewN _⟩
          case measure => simp [intOf]; omega
        · have hvb : (v != v2) = true := by simpa using hvv
          have HVV := Lib.hid hvv
          clear hvv
          go_upto_region 7 with fail
          (refine wp_region_quiet_lit (by kernel_rfl) (by kernel_rfl) ?_; (repeat (first | ((with_reducible refine wpQuiet_step (fun K hK => ?_)); go_simp; (with_reducible refine hK _ ?_); clear hK K) | ((with_reducible refine wpQuiet_off (by kernel_rfl) (fun K hK => ?_)); go_simp; (with_reducible refine hK _ ?_); clear hK K))); (with_reducible refine wpQuiet_nil ?_); intro _ hw'; obtain ⟨nq, hw''⟩ := hw'; subst hw'')
          go_wp2_with fail
          go_ret
          exact ⟨_, rfl, (HE2.out.trans HE.out).drewN _⟩
      · clear hE
        go_upto_region 9 with fail
        cases q0 : (f.id == h.id)
        · have Q0 := Lib.hid q0
          go_wp2_with fail
          go_ret
          exact ⟨_, rfl, HE2.out.trans HE.out⟩
        cases q1 : (f.step == h.step)
        · have Q1 := Lib.hid q1
          go_wp2_with fail
          go_ret
          exact ⟨_, rfl, HE2.out.trans HE.out⟩
        cases q2 : (f.kind == h.kind)
        · have Q2 := Lib.hid q2
          go_wp2_with fail
          go_ret
          exact ⟨_, rfl, HE2.out.trans HE.out⟩
        cases q3 : (f.tick == h.tick)
        · have Q3 := Lib.hid q3
          go_wp2_with fail
          go_ret
          exact ⟨_, rfl, HE2.out.trans HE.out⟩
        cases q4 : (f.actor == h.actor)
        · have Q4 := Lib.hid q4
          go_wp2_with fail
          go_ret
          exact ⟨_, rfl, HE2.out.trans HE.out⟩
        cases q5 : (f.frm == h.frm)
        · have Q5 := Lib.hid q5
          go_wp2_with fail
          go_ret
          exact ⟨_, rfl, HE2.out.trans HE.out⟩
        cases q6 : (f.to == h.to)
        · have Q6 := Lib.hid q6
          go_wp2_with fail
          go_ret
          exact ⟨_, rfl, HE2.out.trans HE.out⟩
        cases q7 : (f.item == h.item)
        · have Q7 := Lib.hid q7
          go_wp2_with fail
          go_ret
          exact ⟨_, rfl, HE2.out.trans HE.out⟩
        cases q8 : (f.n == h.n)
        · have Q8 := Lib.hid q8
          go_wp2_with fail
          go_ret
          exact ⟨_, rfl, HE2.out.trans HE.out⟩
        go_wp2_with fail
        go_ret
        exact ⟨_, rfl, HE2.out.trans HE.out⟩
  · have hnb : ((n' : Int) != (m' : Int)) = true := by simp; omega
    clear hnm
    go_wp2_with fail
    go_ret
    exact ⟨_, rfl, HE2.out.trans HE3.out⟩
end Go.Proofs.YtmeplpiamkaniaaGreat
namespace Go.Proofs.YtmeplpiamkaniaaGreat
set_option linter.unusedVariables false
set_option linter.unusedSimpArgs false
open Go.RowKit
theorem sameB_c (f h : Fl) (A : Option Addr) (n c : Nat) (A' : Option Addr) (n' c' : Nat) (B : Option Addr) (m d : Nat) (B' : Option Addr) (m' d' : Nat) (w : World) (ha : FlB w f (A, n, c) (A', n', c')) (hb : FlB w h (B, m, d) (B', m', d')) :
    Calls Tryz.prog 43 #[flV f A n c A' n' c', flV h B m d B' m' d'] w (fun e w' => ∃ b, e = .returned (.bool b) ∧ (f = h → b = true) ∧ E w w') := by
  by_cases e : f = h
  · subst e
    exact (sameF_c f A n c A' n' c' B m d B' m' d' w ha hb).mono fun e w' h => ⟨true, h.1, fun _ => rfl, h.2⟩
  · exact (sameX_c f h A n c A' n' c' B m d B' m' d' w ha hb).mono fun e' w' h => by
      obtain ⟨b, h1, h2⟩ := h
      exact ⟨b, h1, fun h => absurd h e, h2⟩
set_option linter.unusedSimpArgs false in
set_option maxHeartbeats 8000000 in
set_option maxRecDepth 100000 in
theorem sameList_c (A : Option Addr) (n c : Nat) (fs : List Fl) (B : Option Addr) (m d : Nat) (hs : List Fl) (w : World) (h1 : FlowsAt w A n c fs) (h2 : FlowsAt w B m d hs) :
    Calls Tryz.prog 13 #[.slice A n c, .slice B m d] w (fun e w' => ∃ b, e = .returned (.bool b) ∧ (fs = hs → b = true) ∧ E w w') := by
  have H1 := Lib.hid h1
  have H2 := Lib.hid h2
  have hn63 := h1.n63
  have hm63 := h2.n63
  have HL1 := Lib.hid h1.len
  have HL2 := Lib.hid h2.len
  clear h1 h2
  by_cases hnm : n = m
  · subst hnm
    go_enter Tryz.func13, Tryz.ntmps13
    go_upto_region 4 with fail
    go_loopw [5] (fun ti wr => ∃ k : Nat, k ≤ n ∧ ti = .int .i64 k ∧ E w wr) (fun ti _ => n - (intOf ti).toNat)
    case atStart => exact ⟨0, Nat.zero_le _, rfl, E.refl _⟩
    case round =>
      obtain ⟨k, hk, rfl, hE⟩ := hrel
      have HE := Lib.hid hE
      by_cases hlt : k < n
      · have hkI : (k : Int) < (n : Int) := by omega
        obtain ⟨b1, o1, f, s, t, hA, hb1, hf, _, hc1, hB1⟩ := (H1.out.e hE).get hlt
        obtain ⟨b2, o2, h, s', t', hB, hb2, hh, _, hc2, hB2⟩ := (H2.out.e hE).get hlt
        have HNE := Lib.hid (show fs = hs → f = h from fun e => by rw [e, hh] at hf; exact (Option.some.inj hf).symm)
        have HSB := Lib.hid (sameB_c f h s.1 s.2.1 s.2.2 t.1 t.2.1 t.2.2 s'.1 s'.2.1 s'.2.2 t'.1 t'.2.1 t'.2.2 wr.drew (hB1.e (E.refl wr).drew) (hB2.e (E.refl wr).drew))
        have HS := Lib.hid (fun W (hW : E wr W) => show FlCells W b1 (o1 + k * 11) f s t ∧ FlCells W b2 (o2 + k * 11) h s' t' from ⟨hc1.e hW hb1, hc2.e hW hb2⟩)
        unfold flV at HSB
        unfold FlCells at HS
        subst hA
        subst hB
        have hEa := (E.refl wr).drew
        clear hf hh hc1 hc2 hB1 hB2 hb1 hb2 hE
        go_upto_region 6 with fail
        refine wp_region_held_drew (S := fun W => (W.cell? ⟨b1, o1 + k * 11, none⟩ = some (.int .i64 f.id) ∧ W.cell? ⟨b1, o1 + k * 11 + 1, none⟩ = some (.int .i64 f.step) ∧ W.cell? ⟨b1, o1 + k * 11 + 2, none⟩ = some (.int .i64 f.kind) ∧ W.cell? ⟨b1, o1 + k * 11 + 3, none⟩ = some (.int .i64 f.tick) ∧ W.cell? ⟨b1, o1 + k * 11 + 4, none⟩ = some (.int .i64 f.actor) ∧ W.cell? ⟨b1, o1 + k * 11 + 5, none⟩ = some (.int .i64 f.frm) ∧ W.cell? ⟨b1, o1 + k * 11 + 6, none⟩ = some (.int .i64 f.to) ∧ W.cell? ⟨b1, o1 + k * 11 + 7, none⟩ = some (.int .i64 f.item) ∧ W.cell? ⟨b1, o1 + k * 11 + 8, none⟩ = some (.int .i64 f.n) ∧ W.cell? ⟨b1, o1 + k * 11 + 9, none⟩ = some (.slice s.1 s.2.1 s.2.2) ∧ W.cell? ⟨b1, o1 + k * 11 + 10, none⟩ = some (.slice t.1 t.2.1 t.2.2)) ∧ (W.cell? ⟨b2, o2 + k * 11, none⟩ = some (.int .i64 h.id) ∧ W.cell? ⟨b2, o2 + k * 11 + 1, none⟩ = some (.int .i64 h.step) ∧ W.cell? ⟨b2, o2 + k * 11 + 2, none⟩ = some (.int .i64 h.kind) ∧ W.cell? ⟨b2, o2 + k * 11 + 3, none⟩ = some (.int .i64 h.tick) ∧ W.cell? ⟨b2, o2 + k * 11 + 4, none⟩ = some (.int .i64 h.actor) ∧ W.cell? ⟨b2, o2 + k * 11 + 5, none⟩ = some (.int .i64 h.frm) ∧ W.cell? ⟨b2, o2 + k * 11 + 6, none⟩ = some (.int .i64 h.to) ∧ W.cell? ⟨b2, o2 + k * 11 + 7, none⟩ = some (.int .i64 h.item) ∧ W.cell? ⟨b2, o2 + k * 11 + 8, none⟩ = some (.int .i64 h.n) ∧ W.cell? ⟨b2, o2 + k * 11 + 9, none⟩ = some (.slice s'.1 s'.2.1 s'.2.2) ∧ W.cell? ⟨b2, o2 + k * 11 + 10, none⟩ = some (.slice t'.1 t'.2.1 t'.2.2))) (by kernel_rfl) (HS.out _ hEa) (fun hHeld => ?_)
        (((refine wpAnyH_take (i := 0) (v := ?_) rfl (by kernel_rfl) (by kernel_rfl) (by kernel_rfl) (fun _ _ _ h => h) (Or.inl ⟨by kernel_rfl, ?_⟩) (by assumption) ?_); rotate_left 1; (focus (intro w hSw; (try dsimp only at hSw); go_simp; (try with_reducible rfl))); (try simp only [Act.put, sA, sB, sC])); ((refine wpAnyH_take (i := 1) (v := ?_) rfl (by kernel_rfl) (by kernel_rfl) (by kernel_rfl) (fun _ _ _ h => h) (Or.inl ⟨by kernel_rfl, ?_⟩) (by assumption) ?_); rotate_left 1; (focus (intro w hSw; (try dsimp only at hSw); go_simp; (try with_reducible rfl))); (try simp only [Act.put, sA, sB, sC])); ((refine wpAnyH_take (i := 2) (v := ?_) rfl (by kernel_rfl) (by kernel_rfl) (by kernel_rfl) (fun _ _ _ h => h) (Or.inl ⟨by kernel_rfl, ?_⟩) (by assumption) ?_); rotate_left 1; (focus (intro w hSw; (try dsimp only at hSw); go_simp; (try with_reducible rfl))); (try simp only [Act.put, sA, sB, sC])); ((refine wpAnyH_take (i := 3) (v := ?_) rfl (by kernel_rfl) (by kernel_rfl) (by kernel_rfl) (fun _ _ _ h => h) (Or.inl ⟨by kernel_rfl, ?_⟩) (by assumption) ?_); rotate_left 1; (focus (intro w hSw; (try dsimp only at hSw); go_simp; (try with_reducible rfl))); (try simp only [Act.put, sA, sB, sC])); ((refine wpAnyH_take (i := 4) (v := ?_) rfl (by kernel_rfl) (by kernel_rfl) (by kernel_rfl) (fun _ _ _ h => h) (Or.inl ⟨by kernel_rfl, ?_⟩) (by assumption) ?_); rotate_left 1; (focus (intro w hSw; (try dsimp only at hSw); go_simp; (try with_reducible rfl))); (try simp only [Act.put, sA, sB, sC])); ((refine wpAnyH_take (i := 5) (v := ?_) rfl (by kernel_rfl) (by kernel_rfl) (by kernel_rfl) (fun _ _ _ h => h) (Or.inl ⟨by kernel_rfl, ?_⟩) (by assumption) ?_); rotate_left 1; (focus (intro w hSw; (try dsimp only at hSw); go_simp; (try with_reducible rfl))); (try simp only [Act.put, sA, sB, sC])); ((refine wpAnyH_take (i := 6) (v := ?_) rfl (by kernel_rfl) (by kernel_rfl) (by kernel_rfl) (fun _ _ _ h => h) (Or.inl ⟨by kernel_rfl, ?_⟩) (by assumption) ?_); rotate_left 1; (focus (intro w hSw; (try dsimp only at hSw); go_simp; (try with_reducible rfl))); (try simp only [Act.put, sA, sB, sC])); ((refine wpAnyH_take (i := 7) (v := ?_) rfl (by kernel_rfl) (by kernel_rfl) (by kernel_rfl) (fun _ _ _ h => h) (Or.inl ⟨by kernel_rfl, ?_⟩) (by assumption) ?_); rotate_left 1; (focus (intro w hSw; (try dsimp only at hSw); go_simp; (try with_reducible rfl))); (try simp only [Act.put, sA, sB, sC])))
        (((refine wpAnyH_ready (rs := [8]) (by kernel_rfl) (by simp) ?_); (refine AllReadyH.cons rfl (fun K hK => ?_) AllReadyH.nil); (rw [if_pos (by kernel_rfl)]); go_simp))
        refine HSB.out.mono ?_
        rintro e wn ⟨bv, rfl, hbv, hEn⟩
        have HBV := Lib.hid hbv
        replace hEa := hEa.trans hEn
        refine hK _ _ (HS.out _ hEa) (fun hh => ?_)
        clear hK K hHeld
        have hHeld := hh
        clear hh hEn hbv
        (try simp only [List.getElem_toArray, List.getElem_cons_succ, List.getElem_cons_zero, Act.put, sA, sB, sC])
        (((refine wpAnyH_take (i := 9) (v := ?_) rfl (by kernel_rfl) (by kernel_rfl) (by kernel_rfl) (fun _ _ _ h => h) (Or.inl ⟨by kernel_rfl, ?_⟩) (by assumption) ?_); rotate_left 1; (focus (intro w hSw; (try dsimp only at hSw); go_simp; (try with_reducible rfl))); (try simp only [Act.put, sA, sB, sC])))
        refine wpAnyH_done (by kernel_rfl) ?_ _
        go_simp
        clear hHeld
        cases bv
        · go_wp2_with fail
          go_ret
          exact ⟨false, rfl, (fun e => (by have := HBV.out (HNE.out e); cases this)), HE.out.trans hEa⟩
        · go_wp2_with fail
          go_roundw
          case rel => exact ⟨k + 1, by omega, by go_num, HE.out.trans hEa⟩
          case measure => simp [intOf]; omega
      · clear hE
        go_wp2_with fail
        go_ret
        exact ⟨true, rfl, fun _ => rfl, HE.out⟩
  · have hnb : ((n : Int) != (m : Int)) = true := by simp; omega
    have HNE := Lib.hid (show fs ≠ hs from fun e => hnm (by rw [← HL1.out, ← HL2.out, e]))
    clear hnm
    go_enter Tryz.func13, Tryz.ntmps13
    go_wp2_with fail
    go_ret
    exact ⟨false, rfl, fun e => absurd e HNE.out, E.refl _⟩
end Go.Proofs.YtmeplpiamkaniaaGreat
