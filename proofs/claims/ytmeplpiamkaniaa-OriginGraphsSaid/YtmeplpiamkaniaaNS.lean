/- Lemmas of the claim, joined: GRw GSl GSa. No condition. -/
import Derived.Test.YtmeplpiamkaniaaNK
import Derived.Test.YtmeplpiamkaniaaNF
import Derived.Test.YtmeplpiamkaniaaNB
import Derived.Test.YtmeplpiamkaniaaNE
import Derived.Test.YtmeplpiamkaniaaNA
namespace Go.Proofs.Ytmeplpiamkaniaa
set_option linter.unusedVariables false
set_option linter.unusedSimpArgs false
open Go.RowKit
theorem Nums.takeN {k : IntKind} {w : World} {A : Option Addr} {n c : Nat} {l : List Int} (h : Nums k w A n c l) (m : Nat) (hm : m ≤ n) : Nums k w A m c (l.take m) :=
  ⟨by rw [List.length_take, h.len]; omega, Nat.le_trans hm h.cap, h.mx, fun x hx => h.wf x (List.mem_of_mem_take hx), fun h0 => by
    obtain ⟨b, o, e, hb, hc⟩ := h.at_ (by omega)
    refine ⟨b, o, e, hb, fun i hi => ?_⟩
    rw [List.getElem_take]
    exact hc i (by rw [List.length_take] at hi; omega)⟩
theorem LotsAt.takeL {w : World} {A : Option Addr} {n c : Nat} {l : List Lt} (h : LotsAt w A n c l) (m : Nat) (hm : m ≤ n) : LotsAt w A m c (l.take m) :=
  ⟨by rw [List.length_take, h.len]; omega, Nat.le_trans hm h.cap, h.mx, fun x hx => h.wf x (List.mem_of_mem_take hx), fun h0 => by
    obtain ⟨b, o, e, hb, hc⟩ := h.at_ (by omega)
    refine ⟨b, o, e, hb, fun i x hi => hc i x ?_⟩
    rw [List.getElem?_take] at hi
    split at hi
    · exact hi
    · cases hi⟩
def RetFew (w : World) (nf np nm : Nat) (e : Ending) (w' : World) : Prop := ∃ fs A n c, n ≤ nf ∧ (∀ f ∈ fs, f.parts.length ≤ np ∧ f.made.length ≤ nm) ∧ e = .returned (.slice A n c) ∧ FlowsAt w' A n c fs ∧ E w w'
set_option linter.unusedSimpArgs false in
set_option maxHeartbeats 8000000 in
set_option maxRecDepth 100000 in
theorem raw_c (A : Option Addr) (n c : Nat) (fs : List Fl) (w : World) (h : FlowsAt w A n c fs) :
    Calls Try.prog 30 #[.slice A n c] w (RetFew w 4 3 3) := by
  have HH := Lib.hid h
  have hn63 := h.n63
  clear h
  go_enter Try.func30, Try.ntmps30
  go_upto_region 3 with fail
  go_loopw [3, 4] (fun t3 ti wr => ∃ (i c3 : Nat) (A3 : Option Addr) (q : List FlSl), i ≤ n ∧ i ≤ 4 ∧ ti = .int .i64 i ∧ t3 = .slice A3 i c3 ∧ FRow wr w.heap.size A3 i c3 q ∧ Hid (∀ p ∈ q, p.1.parts.length ≤ 3 ∧ p.1.made.length ≤ 3) ∧ E w wr) (fun _ ti _ => n - (intOf ti).toNat)
  case atStart => exact ⟨0, 0, none, [], Nat.zero_le _, Nat.zero_le _, rfl, rfl, FRow.nil _ _, fun p hp => (by cases hp), E.refl _⟩
  case round =>
    obtain ⟨i, c3, A3, q, hi, hi4, rfl, rfl, hR, hq, hE⟩ := hrel
    have HRW := Lib.hid hR
    have HQ := Lib.hid hq.out
    have HE := Lib.hid hE
    by_cases hlt : i < n
    · have hiI : (i : Int) < (n : Int) := by omega
      by_cases h4 : i < 4
      · have hi4I : (i : Int) < 4 := by omega
        obtain ⟨b, o, f, s, t, hA, hb, hf, hwf, hc, hB⟩ := (HH.out.e hE).get hlt
        obtain ⟨w2, hw2⟩ : ∃ w2, wr.alloc (.cells #[.int .i64 f.id, .int .i64 f.step, .int .i64 f.kind, .int .i64 f.tick, .int .i64 f.actor, .int .i64 f.frm, .int .i64 f.to, .int .i64 f.item, .int .i64 f.n, .slice s.1 s.2.1 s.2.2, .slice t.1 t.2.1 t.2.2] 47) = w2 := ⟨_, rfl⟩
        have hE2 : E wr w2 := by rw [← hw2]; exact (E.refl wr).alloc _
        have HBX := Lib.hid (show FlBox w2 wr.heap.size f s t by rw [← hw2]; exact FlBox.new wr f s t)
        have HZ2 := Lib.hid (show w2.heap.size = wr.heap.size + 1 by rw [← hw2]; simp)
        obtain ⟨w3, hw3⟩ : ∃ w3, w2.alloc (.cells #[] 32) = w3 := ⟨_, rfl⟩
        have hE3 : E w2 w3 := by rw [← hw3]; exact (E.refl w2).alloc _
        have HO3 := Lib.hid (show OwnL w3 w2.heap.size (some ⟨w2.heap.size, 0, none⟩) 0 0 [] by rw [← hw3]; exact OwnL.empty w2 _ (Nat.le_refl _))
        have HB := Lib.hid hB
        have HWF := Lib.hid hwf
        have HE2 := Lib.hid hE2
        have HE3 := Lib.hid hE3
        -- the two counts
        obtain ⟨k1, hk1⟩ : ∃ k : Nat, min s.2.1 3 = k := ⟨_, rfl⟩
        obtain ⟨k2, hk2⟩ : ∃ k : Nat, min t.2.1 3 = k := ⟨_, rfl⟩
        have hm1 : min (s.2.1 : Int) 3 = (k1 : Int) := by omega
        have hm2 : min (t.2.1 : Int) 3 = (k2 : Int) := by omega
        have HIF1 := Lib.hid (show (if 3 < (s.2.1 : Int) then 3 else (s.2.1 : Int)) = (k1 : Int) by split <;> omega)
        have HIF2 := Lib.hid (show (if 3 < (t.2.1 : Int) then 3 else (t.2.1 : Int)) = (k2 : Int) by split <;> omega)
        have hs1 := hB.1.n63
        have hs2 := hB.2.n63
        have hcs1 := hB.1.cap
        have hcs2 := hB.2.cap
        have k1n : k1 ≤ s.2.1 := by omega
        have k2n : k2 ≤ t.2.1 := by omega
        have hk1c : (k1 : Int) ≤ (s.2.2 : Int) := by omega
        have hk2c : (k2 : Int) ≤ (t.2.2 : Int) := by omega
        have K13 : k1 ≤ 3 := by omega
        have K23 : k2 ≤ 3 := by omega
        have HT1 := Lib.hid ((hB.1.e (hE2.trans hE3)).takeL k1 k1n)
        have HT2 := Lib.hid (fun W (hW : E wr W) => (hB.2.e hW).takeN k2 k2n)
        have HLP := Lib.hid (show (f.parts.take k1).length ≤ 3 ∧ (f.made.take k2).length ≤ 3 by rw [List.length_take, List.length_take]; omega)
        unfold FlCells at hc
        obtain ⟨q0, q1, q2, q3, q4, q5, q6, q7, q8, q9, q10⟩ := hc
        subst hA
        clear hf hwf hB hE2 hE3 hR hq hE hk1 hk2 hcs1 hcs2
        go_upto_region 6 with fail
        try rw [hw2]
        clear hw2 q0 q1 q2 q3 q4 q5 q6 q7 q8 q9 q10
        have hBx3 := HBX.out.e HE3.out
        obtain ⟨_, _, _, _, _, _, _, _, _, x9, x10⟩ := hBx3.cells0
        (try simp only at x9 x10)
        have hhh := HT1.out
        have hle3 := HE3.out.le
        go_upto_region 7 with (at_builtin; (try rw [hw3]); (try rw [HIF1.out, Int.toNat_natCast]); refine wpList_appL _ rfl _ _ rfl w2.heap.size _ _ _ [] rfl HO3.out _ _ _ (f.parts.take k1) rfl hhh (by omega) hle3 ?_; intro A4 c4 w4 hO4 hG4 hB4 hor4; (try rw [ob_eq] at hG4); have hE4 : E w2 w4 := HE3.out.grown hG4 (fun k hk => by have : w2.heap.size = k := (by injection hk); omega); have hBx4 := HBX.out.e hE4; have g9 := hBx4.cells0.2.2.2.2.2.2.2.2.2.1; have v9 := hBx4.frz 9)
        rw [List.nil_append] at hO4
        try rw [Nat.zero_add] at hO4
        obtain ⟨w5, hw5⟩ : ∃ w5, w4.setCell ⟨wr.heap.size, 9, none⟩ (.slice A4 k1 c4) = w5 := ⟨_, rfl⟩
        have hX5 : Ex (fun j => j = wr.heap.size) w4 w5 := by rw [← hw5]; exact ex_set w4 wr.heap.size 9 _
        have hB5 : FlBox w5 wr.heap.size f (A4, k1, c4) t := by rw [← hw5]; exact hBx4.set9 A4 k1 c4
        have hz2 := HZ2.out
        have hO5 : OwnL w5 w2.heap.size A4 k1 c4 (f.parts.take k1) := hO4.ex hX5 (fun b hb e => by have := (hO4.ltN b hb).1; omega)
        have hE5 : E wr w5 := e_ex (HE2.out.trans hE4) hX5 (fun j hj => by omega)
        have hz5 : w2.heap.size ≤ w5.heap.size := Nat.le_trans hE4.le hX5.size
        try rw [hw5]
        obtain ⟨w6, hw6⟩ : ∃ w6, w5.alloc (.cells #[] 3) = w6 := ⟨_, rfl⟩
        have hE6 : E w5 w6 := by rw [← hw6]; exact (E.refl w5).alloc _
        have hO6 : Own .i64 3 w6 w5.heap.size (some ⟨w5.heap.size, 0, none⟩) 0 0 [] := by rw [← hw6]; exact Own.empty w5 _ _
        have HB5 := Lib.hid hB5
        have HO5 := Lib.hid hO5
        have HE5 := Lib.hid hE5
        have HE6 := Lib.hid hE6
        have HO6 := Lib.hid hO6
        have HZ5 := Lib.hid hz5
        have hT2 := HT2.out w6 (hE5.trans hE6)
        obtain ⟨_, _, _, _, _, _, _, _, _, y9, y10⟩ := (hB5.e hE6).cells0
        (try simp only at y9 y10)
        have hle6 := hE6.le
        clear hw5 hX5 hB5 hO5 hE5 hE6 hO6 hO4 hG4 hB4 hor4 hBx4 hBx3 hE4 x9 x10 hhh hw3 g9 v9 hz5
        go_upto_region 8 with (at_builtin; (try rw [hw6]); (try rw [HIF2.out, Int.toNat_natCast]); refine wpList_appN intTk _ rfl _ _ rfl w5.heap.size _ _ _ [] rfl HO6.out _ _ _ (f.made.take k2) rfl hT2 (by omega) hle6 ?_; intro A7 c7 w7 hO7 hG7 hB7; (try rw [ob_eq] at hG7); have hE7 : E w5 w7 := HE6.out.grown hG7 (fun k hk => by have : w5.heap.size = k := (by injection hk); omega); have hBx7 := HB5.out.e hE7; have g10 := hBx7.cells0.2.2.2.2.2.2.2.2.2.2; have v10 := hBx7.frz 10)
        rw [List.nil_append] at hO7
        try rw [Nat.zero_add] at hO7
        obtain ⟨w8, hw8⟩ : ∃ w8, w7.setCell ⟨wr.heap.size, 10, none⟩ (.slice A7 k2 c7) = w8 := ⟨_, rfl⟩
        have hX8 : Ex (fun j => j = wr.heap.size) w7 w8 := by rw [← hw8]; exact ex_set w7 wr.heap.size 10 _
        have hB8 : FlBox w8 wr.heap.size f (A4, k1, c4) (A7, k2, c7) := by rw [← hw8]; exact hBx7.set10 A7 k2 c7
        have hO7b := HO5.out.e hE7
        have hO8 : OwnL w8 w2.heap.size A4 k1 c4 (f.parts.take k1) := hO7b.ex hX8 (fun b hb e => by have := (hO7b.ltN b hb).1; omega)
        have hz5 := HZ5.out
        have hN8 : Own .i64 3 w8 w5.heap.size A7 k2 c7 (f.made.take k2) := hO7.ex hX8 (fun b hb e => by have := (hO7.ltN b hb).1; omega)
        have hE8 : E wr w8 := e_ex (HE5.out.trans hE7) hX8 (fun j hj => by omega)
        try rw [hw8]
        have hA3 : ∀ b, ob A3 = some b → b < wr.heap.size := fun b hb => (HRW.out.ltN b hb).2
        obtain ⟨g', c', V1, hrun, hFR, hEV⟩ := flow_push HRW.out HE.out hE8 ⟨f.id, f.step, f.kind, f.tick, f.actor, f.frm, f.to, f.item, f.n, f.parts.take k1, f.made.take k2⟩ (A4, k1, c4) (A7, k2, c7) HWF.out ⟨hO8.reads, hN8.reads⟩ (fun h0 e => by
            cases hb4 : ob A4 with
            | none => rcases hO8.form with ⟨rfl, h1, _⟩ | ⟨g9, rfl, _⟩
                      · have h9 : 0 < k1 := h0; omega
                      · cases hb4
            | some b4 => have h1 := (hO8.ltN b4 hb4).1; rw [show ob (A4, k1, c4).1 = ob A4 from rfl, hb4] at e; have := hA3 b4 e.symm; omega) (fun h0 e => by
            cases hb4 : ob A7 with
            | none => rcases hN8.form with ⟨rfl, h1, _⟩ | ⟨g9, rfl, _⟩
                      · have h9 : 0 < k2 := h0; omega
                      · cases hb4
            | some b4 => have h1 := (hN8.ltN b4 hb4).1; rw [show ob (A7, k2, c7).1 = ob A7 from rfl, hb4] at e; have := hA3 b4 e.symm; omega) (by omega) 23
        (try simp only at hrun)
        have HFR := Lib.hid hFR
        have HEV := Lib.hid hEV
        have HQN := Lib.hid (show ∀ p ∈ q ++ [((⟨f.id, f.step, f.kind, f.tick, f.actor, f.frm, f.to, f.item, f.n, f.parts.take k1, f.made.take k2⟩ : Fl), (A4, k1, c4), (A7, k2, c7))], p.1.parts.length ≤ 3 ∧ p.1.made.length ≤ 3 from fun p hp => by
          rcases List.mem_append.1 hp with hp | hp
          · exact HQ.out p hp
          · rw [List.mem_singleton] at hp; subst hp; exact HLP.out)
        obtain ⟨z0, z1, z2, z3, z4, z5, z6, z7, z8, z9, z10⟩ := hB8.cells0
        (try simp only at z9 z10)
        clear hw8 hX8 hB8 hO8 hN8 hE8 hO7b hO7 hG7 hB7 hBx7 hE7 y9 y10 hT2 hw6 g10 v10 hFR hEV
        go_wp2_with (at_builtin; refine wpList_app_runM rfl _ _ rfl rfl rfl hrun ?_)
        go_roundw
        case rel => exact ⟨i + 1, _, _, _, by omega, by omega, by go_num, rfl, HFR.out, HQN, HEV.out⟩
        case measure => simp [intOf]; omega
      · have hi4I : ¬ (i : Int) < 4 := by omega
        have hd4 : decide ((i : Int) < 4) = false := by simpa using hi4I
        clear hR hq hE
        go_wp2_with fail
        go_ret
        exact ⟨_, _, _, _, hi4, fun f hf => by obtain ⟨p, hp, rfl⟩ := List.mem_map.1 hf; exact HQ.out p hp, rfl, HRW.out.flows, HE.out⟩
    · clear hR hq hE
      go_wp2_with fail
      go_ret
      exact ⟨_, _, _, _, hi4, fun f hf => by obtain ⟨p, hp, rfl⟩ := List.mem_map.1 hf; exact HQ.out p hp, rfl, HRW.out.flows, HE.out⟩
end Go.Proofs.Ytmeplpiamkaniaa
namespace Go.Proofs.Ytmeplpiamkaniaa
set_option linter.unusedVariables false
set_option linter.unusedSimpArgs false
open Go.RowKit
structure SpB (w1 wr : World) (G : Nat) (f : Fl) (A : Option Addr) (n c : Nat) (A' : Option Addr) (n' c' : Nat) : Prop where
  bx : FlBox wr G f (A, n, c) (A', n', c')
  op : OwnL wr (G + 1) A n c f.parts
  om : Own .i64 3 wr (G + 1) A' n' c' f.made
  ap : apartS A A'
  e : E w1 wr
  lo : w1.heap.size ≤ G
  wf : WfF f
structure SpR (w1 W : World) (G : Nat) (f : Fl) (A : Option Addr) (n c : Nat) (A' : Option Addr) (n' c' : Nat) : Prop where
  bx : FlBox W G f (A, n, c) (A', n', c')
  pt : LotsAt W A n c f.parts
  md : Nums .i64 W A' n' c' f.made
  pa : ∀ b, ob A = some b → G < b
  ma : ∀ b, ob A' = some b → G < b
  e : E w1 W
  lo : w1.heap.size ≤ G
  wf : WfF f
theorem OwnL.put0 {w : World} {base n c : Nat} {A : Option Addr} {x : Lt} {l : List Lt} (h : OwnL w base A n c (x :: l)) (v : Int) (hv : (Lit.int .i64 v).wf = true) :
    ∃ g, A = some ⟨g, 0, none⟩ ∧ base ≤ g ∧ 0 < n ∧ (w.cell? ⟨g, 0, none⟩ = some (.int .i64 x.1) ∧ w.frozen? ⟨g, 0, none⟩ = false ∧ w.cell? ⟨g, 1, none⟩ = some (.int .i64 x.2.1) ∧ w.frozen? ⟨g, 1, none⟩ = false) ∧
      OwnL (w.setCell ⟨g, 0, none⟩ (.int .i64 v)) base A n c ((v, x.2.1, x.2.2) :: l) ∧ OwnL (w.setCell ⟨g, 1, none⟩ (.int .i64 v)) base A n c ((x.1, v, x.2.2) :: l) := by
  have hf := h.form
  obtain ⟨h1, h2, h3⟩ := h
  rw [List.length_cons] at h1
  rcases hf with ⟨_, h0, _⟩ | ⟨g, rfl, hb, hlt, hn, hm⟩
  · omega
  · have s0 := (World.ownsRow.stored h2 0 (.int .i64 v)).1
    have s1 := (World.ownsRow.stored h2 1 (.int .i64 v)).1
    have c0 := World.ownsRow.cellAt h2 0 (by omega)
    have c1 := World.ownsRow.cellAt h2 1 (by omega)
    have hfz : ∀ k, w.frozen? ⟨g, k, none⟩ = false := by
      rcases h2.2 with ⟨hv, _⟩ | ⟨g', cap, cur, hv, _, hh, _⟩
      · injection hv with e1; cases e1
      · have := sl_inj hv
        subst this
        exact fun k => frozen_of_row _ _ k _ _ hh
    obtain ⟨x1, x2, x3⟩ := h3 x List.mem_cons_self
    have hw := fun y (hy : y ∈ l) => h3 y (List.mem_cons_of_mem _ hy)
    refine ⟨g, rfl, hb, by omega, ⟨by rw [c0]; rfl, hfz 0, by rw [c1]; rfl, hfz 1⟩, ⟨by rw [List.length_cons]; exact h1, ?_, fun y hy => ?_⟩, ⟨by rw [List.length_cons]; exact h1, ?_, fun y hy => ?_⟩⟩
    · rw [flatL_cons, List.set_cons_zero] at s0
      exact s0
    · rcases List.mem_cons.1 hy with rfl | hy
      · exact ⟨hv, x2, x3⟩
      · exact hw y hy
    · rw [flatL_cons, List.set_cons_succ, List.set_cons_zero] at s1
      exact s1
    · rcases List.mem_cons.1 hy with rfl | hy
      · exact ⟨x1, hv, x3⟩
      · exact hw y hy
section
variable {w1 wr V : World} {G : Nat} {f : Fl} {A A' : Option Addr} {n c n' c' : Nat}
theorem SpB.ready (h : SpB w1 wr G f A n c A' n' c') : SpR w1 wr G f A n c A' n' c' :=
  ⟨h.bx, h.op.reads, h.om.reads, fun b hb => (h.op.ltN b hb).1, fun b hb => (h.om.ltN b hb).1, h.e, h.lo, h.wf⟩
theorem SpB.e_ (h : SpB w1 wr G f A n c A' n' c') (hE : E wr V) : SpB w1 V G f A n c A' n' c' :=
  ⟨h.bx.e hE, h.op.e hE, h.om.e hE, h.ap, h.e.trans hE, h.lo, h.wf⟩
theorem SpB.set_id (h : SpB w1 wr G f A n c A' n' c') (v : Int) (hv : (Lit.int .i64 v).wf = true) : SpR w1 (wr.setCell ⟨G, 0, none⟩ (.int .i64 v)) G { f with id := v } A n c A' n' c' :=
  have hs := ex_set wr G 0 (.int .i64 v)
  ⟨heap_setCell_same _ _ 0 _ _ (.int .i64 v) h.bx, (h.op.ex hs (fun b hb e => by have := (h.op.ltN b hb).1; omega)).reads, (h.om.ex hs (fun b hb e => by have := (h.om.ltN b hb).1; omega)).reads, fun b hb => (h.op.ltN b hb).1, fun b hb => (h.om.ltN b hb).1, h.e.setCell h.lo _, h.lo, ⟨hv, h.wf.2.1, h.wf.2.2.1, h.wf.2.2.2.1, h.wf.2.2.2.2.1, h.wf.2.2.2.2.2.1, h.wf.2.2.2.2.2.2.1, h.wf.2.2.2.2.2.2.2.1, h.wf.2.2.2.2.2.2.2.2⟩⟩
theorem SpB.set_step (h : SpB w1 wr G f A n c A' n' c') (v : Int) (hv : (Lit.int .i64 v).wf = true) : SpR w1 (wr.setCell ⟨G, 1, none⟩ (.int .i64 v)) G { f with step := v } A n c A' n' c' :=
  have hs := ex_set wr G 1 (.int .i64 v)
  ⟨heap_setCell_same _ _ 1 _ _ (.int .i64 v) h.bx, (h.op.ex hs (fun b hb e => by have := (h.op.ltN b hb).1; omega)).reads, (h.om.ex hs (fun b hb e => by have := (h.om.ltN b hb).1; omega)).reads, fun b hb => (h.op.ltN b hb).1, fun b hb => (h.om.ltN b hb).1, h.e.setCell h.lo _, h.lo, ⟨h.wf.1, hv, h.wf.2.2.1, h.wf.2.2.2.1, h.wf.2.2.2.2.1, h.wf.2.2.2.2.2.1, h.wf.2.2.2.2.2.2.1, h.wf.2.2.2.2.2.2.2.1, h.wf.2.2.2.2.2.2.2.2⟩⟩
theorem SpB.set_kind (h : SpB w1 wr G f A n c A' n' c') (v : Int) (hv : (Lit.int .i64 v).wf = true) : SpR w1 (wr.setCell ⟨G, 2, none⟩ (.int .i64 v)) G { f with kind := v } A n c A' n' c' :=
  have hs := ex_set wr G 2 (.int .i64 v)
  ⟨heap_setCell_same _ _ 2 _ _ (.int .i64 v) h.bx, (h.op.ex hs (fun b hb e => by have := (h.op.ltN b hb).1; omega)).reads, (h.om.ex hs (fun b hb e => by have := (h.om.ltN b hb).1; omega)).reads, fun b hb => (h.op.ltN b hb).1, fun b hb => (h.om.ltN b hb).1, h.e.setCell h.lo _, h.lo, ⟨h.wf.1, h.wf.2.1, hv, h.wf.2.2.2.1, h.wf.2.2.2.2.1, h.wf.2.2.2.2.2.1, h.wf.2.2.2.2.2.2.1, h.wf.2.2.2.2.2.2.2.1, h.wf.2.2.2.2.2.2.2.2⟩⟩
theorem SpB.set_frm (h : SpB w1 wr G f A n c A' n' c') (v : Int) (hv : (Lit.int .i64 v).wf = true) : SpR w1 (wr.setCell ⟨G, 5, none⟩ (.int .i64 v)) G { f with frm := v } A n c A' n' c' :=
  have hs := ex_set wr G 5 (.int .i64 v)
  ⟨heap_setCell_same _ _ 5 _ _ (.int .i64 v) h.bx, (h.op.ex hs (fun b hb e => by have := (h.op.ltN b hb).1; omega)).reads, (h.om.ex hs (fun b hb e => by have := (h.om.ltN b hb).1; omega)).reads, fun b hb => (h.op.ltN b hb).1, fun b hb => (h.om.ltN b hb).1, h.e.setCell h.lo _, h.lo, ⟨h.wf.1, h.wf.2.1, h.wf.2.2.1, h.wf.2.2.2.1, h.wf.2.2.2.2.1, hv, h.wf.2.2.2.2.2.2.1, h.wf.2.2.2.2.2.2.2.1, h.wf.2.2.2.2.2.2.2.2⟩⟩
theorem SpB.set_item (h : SpB w1 wr G f A n c A' n' c') (v : Int) (hv : (Lit.int .i64 v).wf = true) : SpR w1 (wr.setCell ⟨G, 7, none⟩ (.int .i64 v)) G { f with item := v } A n c A' n' c' :=
  have hs := ex_set wr G 7 (.int .i64 v)
  ⟨heap_setCell_same _ _ 7 _ _ (.int .i64 v) h.bx, (h.op.ex hs (fun b hb e => by have := (h.op.ltN b hb).1; omega)).reads, (h.om.ex hs (fun b hb e => by have := (h.om.ltN b hb).1; omega)).reads, fun b hb => (h.op.ltN b hb).1, fun b hb => (h.om.ltN b hb).1, h.e.setCell h.lo _, h.lo, ⟨h.wf.1, h.wf.2.1, h.wf.2.2.1, h.wf.2.2.2.1, h.wf.2.2.2.2.1, h.wf.2.2.2.2.2.1, h.wf.2.2.2.2.2.2.1, hv, h.wf.2.2.2.2.2.2.2.2⟩⟩
theorem SpB.set_n (h : SpB w1 wr G f A n c A' n' c') (v : Int) (hv : (Lit.int .i64 v).wf = true) : SpR w1 (wr.setCell ⟨G, 8, none⟩ (.int .i64 v)) G { f with n := v } A n c A' n' c' :=
  have hs := ex_set wr G 8 (.int .i64 v)
  ⟨heap_setCell_same _ _ 8 _ _ (.int .i64 v) h.bx, (h.op.ex hs (fun b hb e => by have := (h.op.ltN b hb).1; omega)).reads, (h.om.ex hs (fun b hb e => by have := (h.om.ltN b hb).1; omega)).reads, fun b hb => (h.op.ltN b hb).1, fun b hb => (h.om.ltN b hb).1, h.e.setCell h.lo _, h.lo, ⟨h.wf.1, h.wf.2.1, h.wf.2.2.1, h.wf.2.2.2.1, h.wf.2.2.2.2.1, h.wf.2.2.2.2.2.1, h.wf.2.2.2.2.2.2.1, h.wf.2.2.2.2.2.2.2.1, hv⟩⟩
theorem SpB.set_tick (h : SpB w1 wr G f A n c A' n' c') (v : Int) (hv : (Lit.int .i64 v).wf = true) : SpR w1 (wr.setCell ⟨G, 3, none⟩ (.int .i64 v)) G { f with tick := v } A n c A' n' c' :=
  have hs := ex_set wr G 3 (.int .i64 v)
  ⟨heap_setCell_same _ _ 3 _ _ (.int .i64 v) h.bx, (h.op.ex hs (fun b hb e => by have := (h.op.ltN b hb).1; omega)).reads, (h.om.ex hs (fun b hb e => by have := (h.om.ltN b hb).1; omega)).reads, fun b hb => (h.op.ltN b hb).1, fun b hb => (h.om.ltN b hb).1, h.e.setCell h.lo _, h.lo, ⟨h.wf.1, h.wf.2.1, h.wf.2.2.1, hv, h.wf.2.2.2.2.1, h.wf.2.2.2.2.2.1, h.wf.2.2.2.2.2.2.1, h.wf.2.2.2.2.2.2.2.1, h.wf.2.2.2.2.2.2.2.2⟩⟩
theorem SpB.set_actor (h : SpB w1 wr G f A n c A' n' c') (v : Int) (hv : (Lit.int .i64 v).wf = true) : SpR w1 (wr.setCell ⟨G, 4, none⟩ (.int .i64 v)) G { f with actor := v } A n c A' n' c' :=
  have hs := ex_set wr G 4 (.int .i64 v)
  ⟨heap_setCell_same _ _ 4 _ _ (.int .i64 v) h.bx, (h.op.ex hs (fun b hb e => by have := (h.op.ltN b hb).1; omega)).reads, (h.om.ex hs (fun b hb e => by have := (h.om.ltN b hb).1; omega)).reads, fun b hb => (h.op.ltN b hb).1, fun b hb => (h.om.ltN b hb).1, h.e.setCell h.lo _, h.lo, ⟨h.wf.1, h.wf.2.1, h.wf.2.2.1, h.wf.2.2.2.1, hv, h.wf.2.2.2.2.2.1, h.wf.2.2.2.2.2.2.1, h.wf.2.2.2.2.2.2.2.1, h.wf.2.2.2.2.2.2.2.2⟩⟩
theorem SpB.set_to (h : SpB w1 wr G f A n c A' n' c') (v : Int) (hv : (Lit.int .i64 v).wf = true) : SpR w1 (wr.setCell ⟨G, 6, none⟩ (.int .i64 v)) G ⟨f.id, f.step, f.kind, f.tick, f.actor, f.frm, v, f.item, f.n, f.parts, f.made⟩ A n c A' n' c' :=
  have hs := ex_set wr G 6 (.int .i64 v)
  ⟨heap_setCell_same _ _ 6 _ _ (.int .i64 v) h.bx, (h.op.ex hs (fun b hb e => by have := (h.op.ltN b hb).1; omega)).reads, (h.om.ex hs (fun b hb e => by have := (h.om.ltN b hb).1; omega)).reads, fun b hb => (h.op.ltN b hb).1, fun b hb => (h.om.ltN b hb).1, h.e.setCell h.lo _, h.lo, ⟨h.wf.1, h.wf.2.1, h.wf.2.2.1, h.wf.2.2.2.1, h.wf.2.2.2.2.1, h.wf.2.2.2.2.2.1, hv, h.wf.2.2.2.2.2.2.2.1, h.wf.2.2.2.2.2.2.2.2⟩⟩
theorem SpB.part (h : SpB w1 wr G f A n c A' n' c') {x : Lt} {l : List Lt} (hp : f.parts = x :: l) (v : Int) (hv : (Lit.int .i64 v).wf = true) :
    ∃ g, A = some ⟨g, 0, none⟩ ∧ 0 < n ∧ (wr.cell? ⟨g, 0, none⟩ = some (.int .i64 x.1) ∧ wr.frozen? ⟨g, 0, none⟩ = false ∧ wr.cell? ⟨g, 1, none⟩ = some (.int .i64 x.2.1) ∧ wr.frozen? ⟨g, 1, none⟩ = false) ∧
      SpR w1 (wr.setCell ⟨g, 0, none⟩ (.int .i64 v)) G { f with parts := (v, x.2.1, x.2.2) :: l } A n c A' n' c' ∧ SpR w1 (wr.setCell ⟨g, 1, none⟩ (.int .i64 v)) G { f with parts := (x.1, v, x.2.2) :: l } A n c A' n' c' := by
  have ho := h.op
  rw [hp] at ho
  obtain ⟨g, rfl, hg, hn, hc, o0, o1⟩ := ho.put0 v hv
  have hlo := h.lo
  have key : ∀ k u, FlBox (wr.setCell ⟨g, k, none⟩ u) G f (some ⟨g, 0, none⟩, n, c) (A', n', c') ∧ Nums .i64 (wr.setCell ⟨g, k, none⟩ u) A' n' c' f.made ∧ E w1 (wr.setCell ⟨g, k, none⟩ u) := fun k u => by
    have hs := ex_set wr g k u
    exact ⟨h.bx.ex hs (fun e => by omega), (h.om.ex hs (fun b hb e => h.ap g rfl (by rw [← e]; exact hb))).reads, h.e.setCell (p := ⟨g, k, none⟩) (by show w1.heap.size ≤ g; omega) _⟩
  obtain ⟨a1, a2, a3⟩ := key 0 (.int .i64 v)
  obtain ⟨b1, b2, b3⟩ := key 1 (.int .i64 v)
  exact ⟨g, rfl, hn, hc, ⟨a1, o0.reads, a2, fun b hb => (h.op.ltN b hb).1, fun b hb => (h.om.ltN b hb).1, a3, h.lo, h.wf⟩, ⟨b1, o1.reads, b2, fun b hb => (h.op.ltN b hb).1, fun b hb => (h.om.ltN b hb).1, b3, h.lo, h.wf⟩⟩
theorem SpB.addMade (h : SpB w1 wr G f A n c A' n' c') (hE : E wr V) (A2 : Option Addr) (y : Int) (hL : Nums .i64 V A2 1 1 [y]) (hn : n' ≤ 1000000) (ty : TypeId) :
    ∃ A3 c3 V1, (Builtin.append_ #[22, 22] ty #[.slice A' n' c', .slice A2 1 1]).run Try.prog V = .ok (.slice A3 (n' + 1) c3) V1 ∧ FlBox V1 G f (A, n, c) (A', n', c') ∧ SpR w1 (V1.setCell ⟨G, 10, none⟩ (.slice A3 (n' + 1) c3)) G { f with made := f.made ++ [y] } A n c A3 (n' + 1) c3 := by
  have h' := h.e_ hE
  have hG := h'.bx.lt
  obtain ⟨A3, c3, V1, hrun, hO, hGr, hor⟩ := run_appN intTk V ty (G + 1) A' n' c' f.made h'.om A2 1 1 [y] hL (by omega) hG
  rw [ob_eq] at hGr
  rw [ob_eq, ob_eq] at hor
  have hX : Ex (fun j => ob A' = some j) V V1 := (Ex.refl _ V).grown hGr (fun k hk => .inr hk)
  have hb1 := h'.bx.ex hX (fun h2 => by have := (h'.om.ltN G h2).1; omega)
  have hs := ex_set V1 G 10 (.slice A3 (n' + 1) c3)
  have hp1 := h'.op.ex hX (fun b hb h2 => h'.ap b hb h2)
  have hlo := h.lo
  refine ⟨A3, c3, V1, hrun, hb1, heap_setCell_same _ _ 10 _ _ (.slice A3 (n' + 1) c3) hb1, (hp1.ex hs (fun b hb e => by have := (hp1.ltN b hb).1; omega)).reads, (hO.ex hs (fun b hb e => by have := (hO.ltN b hb).1; omega)).reads, fun b hb => (hp1.ltN b hb).1, fun b hb => (hO.ltN b hb).1, (h'.e.grown hGr (fun k hk => by have := (h'.om.ltN k hk).1; omega)).setCell h.lo _, h.lo, h.wf⟩
theorem SpB.addPart (h : SpB w1 wr G f A n c A' n' c') (hE : E wr V) (A2 : Option Addr) (y : Lt) (hL : LotsAt V A2 1 1 [y]) (hn : n ≤ 1000000) (ty : TypeId) :
    ∃ A3 c3 V1, (Builtin.append_ #[29, 29] ty #[.slice A n c, .slice A2 1 1]).run Try.prog V = .ok (.slice A3 (n + 1) c3) V1 ∧ FlBox V1 G f (A, n, c) (A', n', c') ∧ SpR w1 (V1.setCell ⟨G, 9, none⟩ (.slice A3 (n + 1) c3)) G { f with parts := f.parts ++ [y] } A3 (n + 1) c3 A' n' c' := by
  have h' := h.e_ hE
  have hG := h'.bx.lt
  obtain ⟨A3, c3, V1, hrun, hO, hGr, hor⟩ := run_appL V ty (G + 1) A n c f.parts h'.op A2 1 1 [y] hL (by omega) hG
  have hX : Ex (fun j => ob A = some j) V V1 := (Ex.refl _ V).grown hGr (fun k hk => .inr hk)
  have hb1 := h'.bx.ex hX (fun h2 => by have := (h'.op.ltN G h2).1; omega)
  have hs := ex_set V1 G 9 (.slice A3 (n + 1) c3)
  have hp1 := h'.om.ex hX (fun b hb h2 => h'.ap b h2 hb)
  have hlo := h.lo
  refine ⟨A3, c3, V1, hrun, hb1, heap_setCell_same _ _ 9 _ _ (.slice A3 (n + 1) c3) hb1, (hO.ex hs (fun b hb e => by have := (hO.ltN b hb).1; omega)).reads, (hp1.ex hs (fun b hb e => by have := (hp1.ltN b hb).1; omega)).reads, fun b hb => (hO.ltN b hb).1, fun b hb => (hp1.ltN b hb).1, (h'.e.grown hGr (fun k hk => by have := (h'.op.ltN k hk).1; omega)).setCell h.lo _, h.lo, h.wf⟩
end
set_option linter.unusedSimpArgs false in
set_option maxHeartbeats 16000000 in
set_option maxRecDepth 100000 in
theorem spoilt_c (A : Option Addr) (n c : Nat) (fs : List Fl) (at_ which by_ : Int) (P M : Nat) (w : World) (h : FlowsAt w A n c fs) (hn : n ≤ 1000) (hz : ∀ f ∈ fs, f.parts.length ≤ P ∧ f.made.length ≤ M) (hP : P ≤ 100000 ∧ M ≤ 100000) (hat : (Lit.int .i64 at_).wf = true) (hwh : (Lit.int .i64 which).wf = true) (hby : (Lit.int .i64 by_).wf = true) :
    Calls Try.prog 29 #[.slice A n c, .int .i64 at_, .int .i64 which, .int .i64 by_] w (RetFew w n (P + 1) (M + 1)) := by
  obtain ⟨A9, c9, w1, q, hrun, hFR, hq, hlow, hG, hor⟩ := run_appFs w w (E.refl w) 23 w.heap.size none 0 0 [] (FRow.nil _ _) (fun b hb => by cases hb) A n c fs h (by omega) (Nat.le_refl _)
  rw [Nat.zero_add] at hrun hFR
  rw [List.nil_append] at hFR
  have hE1 : E w w1 := (E.refl w).grown hG (fun k hk => by cases hk)
  have HFR := Lib.hid hFR
  have HQ := Lib.hid hq
  have HE1 := Lib.hid hE1
  have HZ := Lib.hid hz
  have HL := Lib.hid h.len
  have hn63 := h.n63
  have HPM := Lib.hid hP
  have HN := Lib.hid hn
  have HQZ := Lib.hid (show ∀ p ∈ q, p.1.parts.length ≤ P ∧ p.1.made.length ≤ M from fun p hp => hz p.1 (by rw [← hq]; exact List.mem_map.2 ⟨p, hp, rfl⟩))
  clear h hFR hq hlow hG hor hE1 hz hP hn
  rcases Nat.eq_zero_or_pos n with h0 | h0
  · subst h0
    go_enter Try.func29, Try.ntmps29
    go_wp2_with (at_builtin; refine wpList_app_runM rfl _ _ rfl rfl rfl hrun ?_)
    go_ret
    exact ⟨_, _, _, _, Nat.le_refl _, fun f hf => by obtain ⟨p, hp, rfl⟩ := List.mem_map.1 hf; have := HQZ.out p hp; omega, rfl, HFR.out.flows, HE1.out⟩
  · have hd0 : ((n : Int) == 0) = false := by simp; omega
    obtain ⟨w2, hw2⟩ : ∃ w2, w1.alloc (.cells #[.int .i64 at_] 3) = w2 := ⟨_, rfl⟩
    have hE2 : E w1 w2 := by rw [← hw2]; exact (E.refl w1).alloc _
    have HPK := Lib.hid (pick13_c (some ⟨w1.heap.size, 0, none⟩) 1 1 [at_] 0 (n : Int) w2 (by rw [← hw2]; exact nums_one w1 hat) (by omega) (by omega) (by omega))
    have hpr := pk_range [at_] 0 (m := (n : Int)) (by omega)
    obtain ⟨i, hi⟩ : ∃ i : Nat, pk [at_] 0 (n : Int) = (i : Int) := ⟨(pk [at_] 0 (n : Int)).toNat, by omega⟩
    rw [hi] at HPK hpr
    have hin : i < n := by omega
    have hiI : (i : Int) < (n : Int) := by omega
    clear hi hpr hd0
    have hd0 : ((n : Int) == 0) = false := by simp; omega
    have HE2 := Lib.hid hE2
    have HI := Lib.hid hin
    have HPW := Lib.hid (fun W (hW : E w1 W) (b : Nat) (hb : Nums .i64 W (some ⟨b, 0, none⟩) 1 1 [which]) => pick13_c (some ⟨b, 0, none⟩) 1 1 [which] 0 13 W hb (by omega) (by omega) (by omega))
    have hvr := pk_range [which] 0 (m := 13) (by omega)
    obtain ⟨v, hv⟩ : ∃ v : Int, pk [which] 0 13 = v := ⟨_, rfl⟩
    rw [hv] at HPW hvr
    have HVR := Lib.hid hvr
    have HWH := Lib.hid hwh
    have HBY := Lib.hid hby
    clear hE2 hin hv hvr hwh hat hby
    obtain ⟨⟨f, s, t⟩, hp⟩ : ∃ p : FlSl, q[i]? = some p := ⟨q[i]'(by rw [HFR.out.1]; exact HI.out), List.getElem?_eq_getElem _⟩
    have hpm := List.mem_of_getElem? hp
    obtain ⟨hwf, hB, _, _⟩ := HFR.out.2.2 _ hpm
    (try simp only at hwf hB)
    have hz := HQZ.out _ hpm
    (try simp only at hz)
    rcases HFR.out.form with ⟨_, h1, _⟩ | ⟨g9, hA9, hg9, hg9l, hnc9, _⟩
    · omega
    subst hA9
    have HC := Lib.hid (fun W (hW : E w1 W) => (HFR.out.e hW).cells hp)
    have HFZ := Lib.hid (fun W (hW : E w1 W) => (HFR.out.e hW).frz)
    have HP := Lib.hid hp
    have HWF := Lib.hid hwf
    have HB := Lib.hid hB
    have HZF := Lib.hid hz
    clear hp hpm hwf hB hz hg9 hnc9
    go_enter Try.func29, Try.ntmps29
    go_upto_region 5 with (at_builtin; refine wpList_app_runM rfl _ _ rfl rfl rfl hrun ?_)
    go_upto_region 6 with (go_at_call 37; (try rw [hw2]); refine HPK.out.mono ?_; rintro e w3 ⟨rfl, hE3⟩)
    have HE3 := Lib.hid (HE2.out.trans hE3)
    clear hE3 hw2 hrun hd0
    obtain ⟨q0, q1, q2, q3, q4, q5, q6, q7, q8, q9, q10⟩ := HC.out w3 HE3.out
    (try simp only at q0 q1 q2 q3 q4 q5 q6 q7 q8 q9 q10)
    obtain ⟨w4, hw4⟩ : ∃ w4, w3.alloc (.cells #[.int .i64 f.id, .int .i64 f.step, .int .i64 f.kind, .int .i64 f.tick, .int .i64 f.actor, .int .i64 f.frm, .int .i64 f.to, .int .i64 f.item, .int .i64 f.n, .slice s.1 s.2.1 s.2.2, .slice t.1 t.2.1 t.2.2] 47) = w4 := ⟨_, rfl⟩
    have hE4 : E w3 w4 := by rw [← hw4]; exact (E.refl w3).alloc _
    have HBX := Lib.hid (show FlBox w4 w3.heap.size f s t by rw [← hw4]; exact FlBox.new w3 f s t)
    have HZ4 := Lib.hid (show w4.heap.size = w3.heap.size + 1 by rw [← hw4]; simp)
    have HE4 := Lib.hid hE4
    go_upto_region 8 with fail
    try rw [hw4]
    clear hw4 q0 q1 q2 q3 q4 q5 q6 q7 q8 q9 q10 hE4
    obtain ⟨_, _, _, _, _, _, _, _, _, x9, x10⟩ := HBX.out.cells0
    have hPt : LotsAt w4 s.1 s.2.1 s.2.2 f.parts := HB.out.1.e (HE3.out.trans HE4.out)
    have hpl := hPt.len
    have hzf := HZF.out
    obtain ⟨A4, c4, w5, hrun4, hO4, hG4, hor4⟩ := run_appL w4 29 w4.heap.size none 0 0 [] (OwnL.nil _ _) s.1 s.2.1 s.2.2 f.parts hPt (by have := HPM.out; omega) (Nat.le_refl _)
    rw [Nat.zero_add] at hrun4 hO4
    rw [List.nil_append] at hO4
    have hE5 : E w4 w5 := (E.refl w4).grown hG4 (fun k hk => by cases hk)
    have hBx5 := HBX.out.e hE5
    have g9c := hBx5.cells0.2.2.2.2.2.2.2.2.2.1
    have v9 := hBx5.frz 9
    go_upto_region 10 with (at_builtin; refine wpList_app_runM rfl _ _ rfl rfl rfl hrun4 ?_)
    obtain ⟨w6, hw6⟩ : ∃ w6, w5.setCell ⟨w3.heap.size, 9, none⟩ (.slice A4 s.2.1 c4) = w6 := ⟨_, rfl⟩
    have hX6 : Ex (fun j => j = w3.heap.size) w5 w6 := by rw [← hw6]; exact ex_set w5 w3.heap.size 9 _
    have hB6 : FlBox w6 w3.heap.size f (A4, s.2.1, c4) t := by rw [← hw6]; exact hBx5.set9 A4 s.2.1 c4
    have hz4 := HZ4.out
    have hO6 : OwnL w6 (w3.heap.size + 1) A4 s.2.1 c4 f.parts := (hO4.ex hX6 (fun b hb e => by have := (hO4.ltN b hb).1; omega)).rebase (by omega)
    have hE6 : E w3 w6 := e_ex (HE4.out.trans hE5) hX6 (fun j hj => by omega)
    try rw [hw6]
    obtain ⟨_, _, _, _, _, _, _, _, _, y9, y10⟩ := hB6.cells0
    have hMt : Nums .i64 w6 t.1 t.2.1 t.2.2 f.made := HB.out.2.e (HE3.out.trans hE6)
    have hml := hMt.len
    obtain ⟨A7, c7, w7, hrun7, hO7, hG7, hor7⟩ := run_appN intTk w6 22 w6.heap.size none 0 0 [] (Own.nil _ _ _ _) t.1 t.2.1 t.2.2 f.made hMt (by have := HPM.out; omega) (Nat.le_refl _)
    rw [Nat.zero_add] at hrun7 hO7
    rw [List.nil_append] at hO7
    rw [ob_eq] at hG7
    have hE7 : E w6 w7 := (E.refl w6).grown hG7 (fun k hk => by cases hk)
    have hBx7 := hB6.e hE7
    have g10c := hBx7.cells0.2.2.2.2.2.2.2.2.2.2
    have v10 := hBx7.frz 10
    have hz6 : w4.heap.size ≤ w6.heap.size := Nat.le_trans hE5.size hX6.size
    have hz7 := hE6.size
    clear hw6 x9 x10 hrun4 g9c v9 hBx5
    go_upto_region 11 with (at_builtin; refine wpList_app_runM rfl _ _ rfl rfl rfl hrun7 ?_)
    obtain ⟨w8, hw8⟩ : ∃ w8, w7.setCell ⟨w3.heap.size, 10, none⟩ (.slice A7 t.2.1 c7) = w8 := ⟨_, rfl⟩
    have hX8 : Ex (fun j => j = w3.heap.size) w7 w8 := by rw [← hw8]; exact ex_set w7 w3.heap.size 10 _
    have hO6b := hO6.e hE7
    have hz3 := HE3.out.size
    have HS := Lib.hid (show SpB w1 w8 w3.heap.size f A4 s.2.1 c4 A7 t.2.1 c7 from ⟨by rw [← hw8]; exact hBx7.set10 A7 t.2.1 c7, hO6b.ex hX8 (fun b hb e => by have := (hO6b.ltN b hb).1; omega), (hO7.ex hX8 (fun b hb e => by have := (hO7.ltN b hb).1; omega)).rebase (by omega), fun b hb hb2 => by have := (hO7.ltN b hb2).1; have := (hO6.ltN b hb).2; omega, HE3.out.trans (e_ex (hE6.trans hE7) hX8 (fun j hj => by omega)), hz3, HWF.out⟩)
    try rw [hw8]
    have HPL := Lib.hid (show f.parts.length = s.2.1 ∧ f.made.length = t.2.1 from ⟨hpl, hml⟩)
    have HSL := Lib.hid (show s.2.1 ≤ 100000 ∧ t.2.1 ≤ 100000 from by have := HPM.out; omega)
    clear hw8 hX8 hO6b hz3 hE6 hE7 hO7 hG7 hor7 hrun7 hBx7 g10c v10 hMt hml y9 y10 hO6 hB6 hX6 hE5 hO4 hG4 hor4 hPt hpl hzf hz6 hz7 hz4
    obtain ⟨w9, hw9⟩ : ∃ w9, w8.alloc (.cells #[.int .i64 which] 3) = w9 := ⟨_, rfl⟩
    have hE9 : E w8 w9 := by rw [← hw9]; exact (E.refl w8).alloc _
    have HPV := Lib.hid (HPW.out w9 (HS.out.e.trans hE9) w8.heap.size (by rw [← hw9]; exact nums_one w8 HWH.out))
    have HE9 := Lib.hid hE9
    clear hE9 HPK
    go_upto_region 14 with (go_at_call 37; (try rw [hw9]); refine HPV.out.mono ?_; rintro e wa ⟨rfl, hEa⟩)
    have HSA := Lib.hid (HS.out.e_ (HE9.out.trans hEa))
    -- how it ends
    have HEND := Lib.hid (show ∀ W f' A5 n5 c5 A6 n6 c6, SpR w1 W w3.heap.size f' A5 n5 c5 A6 n6 c6 → f'.parts.length ≤ P + 1 → f'.made.length ≤ M + 1 →
        (w1.heap.size ≤ w3.heap.size ∧ FRow W w.heap.size (some ⟨g9, 0, none⟩) n c9 q) ∧ ∀ W', FRow W' w.heap.size (some ⟨g9, 0, none⟩) n c9 (q.set i (f', (A5, n5, c5), (A6, n6, c6))) → E w W' → RetFew w n (P + 1) (M + 1) (.returned (.slice (some ⟨g9, 0, none⟩) n c9)) W' from fun W f' A5 n5 c5 A6 n6 c6 hS h1 h2 =>
      ⟨⟨HE3.out.size, HFR.out.e hS.e⟩, fun W' hFW hEW => ⟨_, _, _, _, Nat.le_refl _, fun g hg => by
        obtain ⟨p, hp, rfl⟩ := List.mem_map.1 hg
        rcases List.mem_or_eq_of_mem_set hp with hp | rfl
        · have := HQZ.out p hp; omega
        · exact ⟨h1, h2⟩, rfl, hFW.flows, hEW⟩⟩)
    clear hw9 hEa
    by_cases v0 : v = 0
    · subst v0
      have SR := Lib.hid (HSA.out.set_id by_ HBY.out)
      have LP := Lib.hid (show ({ f with id := by_ } : Fl).parts.length ≤ P + 1 ∧ ({ f with id := by_ } : Fl).made.length ≤ M + 1 from by have := HZF.out; show f.parts.length ≤ P + 1 ∧ f.made.length ≤ M + 1; omega)
      have hb0 := HSA.out.bx
      have k0 := hb0.cells0.1
      have y0 := hb0.frz 0
      clear hb0
      go_upto_region 39 with fail
      clear k0 y0
      have hbx := SR.out.bx
      obtain ⟨b0, b1, b2, b3, b4, b5, b6, b7, b8, b9, b10⟩ := hbx.cells0
      (try simp only at b0 b1 b2 b3 b4 b5 b6 b7 b8 b9 b10)
      obtain ⟨⟨hlo, hFW⟩, hfin⟩ := HEND.out _ _ _ _ _ _ _ _ SR.out LP.out.1 LP.out.2
      have HFW := Lib.hid hFW
      have HFN := Lib.hid hfin
      obtain ⟨r0, r1, r2, r3, r4, r5, r6, r7, r8, r9, r10⟩ := hFW.cells HP.out
      have z0 := hFW.frz (i * 11)
      have z1 := hFW.frz (i * 11 + 1)
      have z2 := hFW.frz (i * 11 + 2)
      have z3 := hFW.frz (i * 11 + 3)
      have z4 := hFW.frz (i * 11 + 4)
      have z5 := hFW.frz (i * 11 + 5)
      have z6 := hFW.frz (i * 11 + 6)
      have z7 := hFW.frz (i * 11 + 7)
      have z8 := hFW.frz (i * 11 + 8)
      have z9 := hFW.frz (i * 11 + 9)
      have z10 := hFW.frz (i * 11 + 10)
      clear hFW hfin hbx
      go_wp2_with fail
      have hsr := SR.out
      have hput := HFW.out.put HI.out ({ f with id := by_ }, (A4, s.2.1, c4), (A7, t.2.1, c7)) hsr.wf ⟨hsr.pt, hsr.md⟩ (fun _ e => by have := hsr.pa g9 e; omega) (fun _ e => by have := hsr.ma g9 e; omega)
      have hge := HFR.out.ltN g9 rfl
      have hEf := ((HE1.out.trans hsr.e)).set11 (g := g9) hge.1 (i * 11) { f with id := by_ } (A4, s.2.1, c4) (A7, t.2.1, c7)
      (try simp only at hput hEf)
      go_ret
      exact HFN.out _ hput hEf
    have n0 : (v == 0) = false := by simpa using v0
    by_cases v1 : v = 1
    · subst v1
      have SR := Lib.hid (HSA.out.set_step by_ HBY.out)
      have LP := Lib.hid (show ({ f with step := by_ } : Fl).parts.length ≤ P + 1 ∧ ({ f with step := by_ } : Fl).made.length ≤ M + 1 from by have := HZF.out; show f.parts.length ≤ P + 1 ∧ f.made.length ≤ M + 1; omega)
      have hb0 := HSA.out.bx
      have k1 := hb0.cells0.2.1
      have y1 := hb0.frz 1
      clear hb0
      go_upto_region 39 with fail
      clear k1 y1
      have hbx := SR.out.bx
      obtain ⟨b0, b1, b2, b3, b4, b5, b6, b7, b8, b9, b10⟩ := hbx.cells0
      (try simp only at b0 b1 b2 b3 b4 b5 b6 b7 b8 b9 b10)
      obtain ⟨⟨hlo, hFW⟩, hfin⟩ := HEND.out _ _ _ _ _ _ _ _ SR.out LP.out.1 LP.out.2
      have HFW := Lib.hid hFW
      have HFN := Lib.hid hfin
      obtain ⟨r0, r1, r2, r3, r4, r5, r6, r7, r8, r9, r10⟩ := hFW.cells HP.out
      have z0 := hFW.frz (i * 11)
      have z1 := hFW.frz (i * 11 + 1)
      have z2 := hFW.frz (i * 11 + 2)
      have z3 := hFW.frz (i * 11 + 3)
      have z4 := hFW.frz (i * 11 + 4)
      have z5 := hFW.frz (i * 11 + 5)
      have z6 := hFW.frz (i * 11 + 6)
      have z7 := hFW.frz (i * 11 + 7)
      have z8 := hFW.frz (i * 11 + 8)
      have z9 := hFW.frz (i * 11 + 9)
      have z10 := hFW.frz (i * 11 + 10)
      clear hFW hfin hbx
      go_wp2_with fail
      have hsr := SR.out
      have hput := HFW.out.put HI.out ({ f with step := by_ }, (A4, s.2.1, c4), (A7, t.2.1, c7)) hsr.wf ⟨hsr.pt, hsr.md⟩ (fun _ e => by have := hsr.pa g9 e; omega) (fun _ e => by have := hsr.ma g9 e; omega)
      have hge := HFR.out.ltN g9 rfl
      have hEf := ((HE1.out.trans hsr.e)).set11 (g := g9) hge.1 (i * 11) { f with step := by_ } (A4, s.2.1, c4) (A7, t.2.1, c7)
      (try simp only at hput hEf)
      go_ret
      exact HFN.out _ hput hEf
    have n1 : (v == 1) = false := by simpa using v1
    by_cases v2 : v = 2
    · subst v2
      have SR := Lib.hid (HSA.out.set_kind by_ HBY.out)
      have LP := Lib.hid (show ({ f with kind := by_ } : Fl).parts.length ≤ P + 1 ∧ ({ f with kind := by_ } : Fl).made.length ≤ M + 1 from by have := HZF.out; show f.parts.length ≤ P + 1 ∧ f.made.length ≤ M + 1; omega)
      have hb0 := HSA.out.bx
      have k2 := hb0.cells0.2.2.1
      have y2 := hb0.frz 2
      clear hb0
      go_upto_region 39 with fail
      clear k2 y2
      have hbx := SR.out.bx
      obtain ⟨b0, b1, b2, b3, b4, b5, b6, b7, b8, b9, b10⟩ := hbx.cells0
      (try simp only at b0 b1 b2 b3 b4 b5 b6 b7 b8 b9 b10)
      obtain ⟨⟨hlo, hFW⟩, hfin⟩ := HEND.out _ _ _ _ _ _ _ _ SR.out LP.out.1 LP.out.2
      have HFW := Lib.hid hFW
      have HFN := Lib.hid hfin
      obtain ⟨r0, r1, r2, r3, r4, r5, r6, r7, r8, r9, r10⟩ := hFW.cells HP.out
      have z0 := hFW.frz (i * 11)
      have z1 := hFW.frz (i * 11 + 1)
      have z2 := hFW.frz (i * 11 + 2)
      have z3 := hFW.frz (i * 11 + 3)
      have z4 := hFW.frz (i * 11 + 4)
      have z5 := hFW.frz (i * 11 + 5)
      have z6 := hFW.frz (i * 11 + 6)
      have z7 := hFW.frz (i * 11 + 7)
      have z8 := hFW.frz (i * 11 + 8)
      have z9 := hFW.frz (i * 11 + 9)
      have z10 := hFW.frz (i * 11 + 10)
      clear hFW hfin hbx
      go_wp2_with fail
      have hsr := SR.out
      have hput := HFW.out.put HI.out ({ f with kind := by_ }, (A4, s.2.1, c4), (A7, t.2.1, c7)) hsr.wf ⟨hsr.pt, hsr.md⟩ (fun _ e => by have := hsr.pa g9 e; omega) (fun _ e => by have := hsr.ma g9 e; omega)
      have hge := HFR.out.ltN g9 rfl
      have hEf := ((HE1.out.trans hsr.e)).set11 (g := g9) hge.1 (i * 11) { f with kind := by_ } (A4, s.2.1, c4) (A7, t.2.1, c7)
      (try simp only at hput hEf)
      go_ret
      exact HFN.out _ hput hEf
    have n2 : (v == 2) = false := by simpa using v2
    by_cases v3 : v = 3
    · subst v3
      have SR := Lib.hid (HSA.out.set_frm by_ HBY.out)
      have LP := Lib.hid (show ({ f with frm := by_ } : Fl).parts.length ≤ P + 1 ∧ ({ f with frm := by_ } : Fl).made.length ≤ M + 1 from by have := HZF.out; show f.parts.length ≤ P + 1 ∧ f.made.length ≤ M + 1; omega)
      have hb0 := HSA.out.bx
      have k5 := hb0.cells0.2.2.2.2.2.1
      have y5 := hb0.frz 5
      clear hb0
      go_upto_region 39 with fail
      clear k5 y5
      have hbx := SR.out.bx
      obtain ⟨b0, b1, b2, b3, b4, b5, b6, b7, b8, b9, b10⟩ := hbx.cells0
      (try simp only at b0 b1 b2 b3 b4 b5 b6 b7 b8 b9 b10)
      obtain ⟨⟨hlo, hFW⟩, hfin⟩ := HEND.out _ _ _ _ _ _ _ _ SR.out LP.out.1 LP.out.2
      have HFW := Lib.hid hFW
      have HFN := Lib.hid hfin
      obtain ⟨r0, r1, r2, r3, r4, r5, r6, r7, r8, r9, r10⟩ := hFW.cells HP.out
      have z0 := hFW.frz (i * 11)
      have z1 := hFW.frz (i * 11 + 1)
      have z2 := hFW.frz (i * 11 + 2)
      have z3 := hFW.frz (i * 11 + 3)
      have z4 := hFW.frz (i * 11 + 4)
      have z5 := hFW.frz (i * 11 + 5)
      have z6 := hFW.frz (i * 11 + 6)
      have z7 := hFW.frz (i * 11 + 7)
      have z8 := hFW.frz (i * 11 + 8)
      have z9 := hFW.frz (i * 11 + 9)
      have z10 := hFW.frz (i * 11 + 10)
      clear hFW hfin hbx
      go_wp2_with fail
      have hsr := SR.out
      have hput := HFW.out.put HI.out ({ f with frm := by_ }, (A4, s.2.1, c4), (A7, t.2.1, c7)) hsr.wf ⟨hsr.pt, hsr.md⟩ (fun _ e => by have := hsr.pa g9 e; omega) (fun _ e => by have := hsr.ma g9 e; omega)
      have hge := HFR.out.ltN g9 rfl
      have hEf := ((HE1.out.trans hsr.e)).set11 (g := g9) hge.1 (i * 11) { f with frm := by_ } (A4, s.2.1, c4) (A7, t.2.1, c7)
      (try simp only at hput hEf)
      go_ret
      exact HFN.out _ hput hEf
    have n3 : (v == 3) = false := by simpa using v3
    by_cases v4 : v = 4
    · subst v4
      have SR := Lib.hid (HSA.out.set_item by_ HBY.out)
      have LP := Lib.hid (show ({ f with item := by_ } : Fl).parts.length ≤ P + 1 ∧ ({ f with item := by_ } : Fl).made.length ≤ M + 1 from by have := HZF.out; show f.parts.length ≤ P + 1 ∧ f.made.length ≤ M + 1; omega)
      have hb0 := HSA.out.bx
      have k7 := hb0.cells0.2.2.2.2.2.2.2.1
      have y7 := hb0.frz 7
      clear hb0
      go_upto_region 39 with fail
      clear k7 y7
      have hbx := SR.out.bx
      obtain ⟨b0, b1, b2, b3, b4, b5, b6, b7, b8, b9, b10⟩ := hbx.cells0
      (try simp only at b0 b1 b2 b3 b4 b5 b6 b7 b8 b9 b10)
      obtain ⟨⟨hlo, hFW⟩, hfin⟩ := HEND.out _ _ _ _ _ _ _ _ SR.out LP.out.1 LP.out.2
      have HFW := Lib.hid hFW
      have HFN := Lib.hid hfin
      obtain ⟨r0, r1, r2, r3, r4, r5, r6, r7, r8, r9, r10⟩ := hFW.cells HP.out
      have z0 := hFW.frz (i * 11)
      have z1 := hFW.frz (i * 11 + 1)
      have z2 := hFW.frz (i * 11 + 2)
      have z3 := hFW.frz (i * 11 + 3)
      have z4 := hFW.frz (i * 11 + 4)
      have z5 := hFW.frz (i * 11 + 5)
      have z6 := hFW.frz (i * 11 + 6)
      have z7 := hFW.frz (i * 11 + 7)
      have z8 := hFW.frz (i * 11 + 8)
      have z9 := hFW.frz (i * 11 + 9)
      have z10 := hFW.frz (i * 11 + 10)
      clear hFW hfin hbx
      go_wp2_with fail
      have hsr := SR.out
      have hput := HFW.out.put HI.out ({ f with item := by_ }, (A4, s.2.1, c4), (A7, t.2.1, c7)) hsr.wf ⟨hsr.pt, hsr.md⟩ (fun _ e => by have := hsr.pa g9 e; omega) (fun _ e => by have := hsr.ma g9 e; omega)
      have hge := HFR.out.ltN g9 rfl
      have hEf := ((HE1.out.trans hsr.e)).set11 (g := g9) hge.1 (i * 11) { f with item := by_ } (A4, s.2.1, c4) (A7, t.2.1, c7)
      (try simp only at hput hEf)
      go_ret
      exact HFN.out _ hput hEf
    have n4 : (v == 4) = false := by simpa using v4
    by_cases v5 : v = 5
    · subst v5
      have SR := Lib.hid (HSA.out.set_n by_ HBY.out)
      have LP := Lib.hid (show ({ f with n := by_ } : Fl).parts.length ≤ P + 1 ∧ ({ f with n := by_ } : Fl).made.length ≤ M + 1 from by have := HZF.out; show f.parts.length ≤ P + 1 ∧ f.made.length ≤ M + 1; omega)
      have hb0 := HSA.out.bx
      have k8 := hb0.cells0.2.2.2.2.2.2.2.2.1
      have y8 := hb0.frz 8
      clear hb0
      go_upto_region 39 with fail
      clear k8 y8
      have hbx := SR.out.bx
      obtain ⟨b0, b1, b2, b3, b4, b5, b6, b7, b8, b9, b10⟩ := hbx.cells0
      (try simp only at b0 b1 b2 b3 b4 b5 b6 b7 b8 b9 b10)
      obtain ⟨⟨hlo, hFW⟩, hfin⟩ := HEND.out _ _ _ _ _ _ _ _ SR.out LP.out.1 LP.out.2
      have HFW := Lib.hid hFW
      have HFN := Lib.hid hfin
      obtain ⟨r0, r1, r2, r3, r4, r5, r6, r7, r8, r9, r10⟩ := hFW.cells HP.out
      have z0 := hFW.frz (i * 11)
      have z1 := hFW.frz (i * 11 + 1)
      have z2 := hFW.frz (i * 11 + 2)
      have z3 := hFW.frz (i * 11 + 3)
      have z4 := hFW.frz (i * 11 + 4)
      have z5 := hFW.frz (i * 11 + 5)
      have z6 := hFW.frz (i * 11 + 6)
      have z7 := hFW.frz (i * 11 + 7)
      have z8 := hFW.frz (i * 11 + 8)
      have z9 := hFW.frz (i * 11 + 9)
      have z10 := hFW.frz (i * 11 + 10)
      clear hFW hfin hbx
      go_wp2_with fail
      have hsr := SR.out
      have hput := HFW.out.put HI.out ({ f with n := by_ }, (A4, s.2.1, c4), (A7, t.2.1, c7)) hsr.wf ⟨hsr.pt, hsr.md⟩ (fun _ e => by have := hsr.pa g9 e; omega) (fun _ e => by have := hsr.ma g9 e; omega)
      have hge := HFR.out.ltN g9 rfl
      have hEf := ((HE1.out.trans hsr.e)).set11 (g := g9) hge.1 (i * 11) { f with n := by_ } (A4, s.2.1, c4) (A7, t.2.1, c7)
      (try simp only at hput hEf)
      go_ret
      exact HFN.out _ hput hEf
    have n5 : (v == 5) = false := by simpa using v5
    by_cases v6 : v = 6
    · subst v6
      obtain ⟨V, hV⟩ : ∃ V, wa.alloc (.cells #[.int .i64 by_] 3) = V := ⟨_, rfl⟩
      have hEV : E wa V := by rw [← hV]; exact (E.refl wa).alloc _
      obtain ⟨A3, c3, V1, hrunV, hbV, hSR⟩ := HSA.out.addMade hEV (some ⟨wa.heap.size, 0, none⟩) by_ (by rw [← hV]; exact nums_one wa HBY.out) (by have := HSL.out; omega) 22
      have SR := Lib.hid hSR
      have LP := Lib.hid (show ({ f with made := f.made ++ [by_] } : Fl).parts.length ≤ P + 1 ∧ ({ f with made := f.made ++ [by_] } : Fl).made.length ≤ M + 1 from by have := HZF.out; show f.parts.length ≤ P + 1 ∧ (f.made ++ [by_]).length ≤ M + 1; rw [List.length_append, List.length_singleton]; omega)
      have k10 := HSA.out.bx.cells0.2.2.2.2.2.2.2.2.2.2
      have j10 := hbV.cells0.2.2.2.2.2.2.2.2.2.2
      have y10 := hbV.frz 10
      clear hSR hEV hbV
      go_upto_region 39 with (at_builtin; (try rw [hV]); refine wpList_app_runM rfl _ _ rfl rfl rfl hrunV ?_)
      clear k10 j10 y10 hrunV hV
      have hbx := SR.out.bx
      obtain ⟨b0, b1, b2, b3, b4, b5, b6, b7, b8, b9, b10⟩ := hbx.cells0
      (try simp only at b0 b1 b2 b3 b4 b5 b6 b7 b8 b9 b10)
      obtain ⟨⟨hlo, hFW⟩, hfin⟩ := HEND.out _ _ _ _ _ _ _ _ SR.out LP.out.1 LP.out.2
      have HFW := Lib.hid hFW
      have HFN := Lib.hid hfin
      obtain ⟨r0, r1, r2, r3, r4, r5, r6, r7, r8, r9, r10⟩ := hFW.cells HP.out
      have z0 := hFW.frz (i * 11)
      have z1 := hFW.frz (i * 11 + 1)
      have z2 := hFW.frz (i * 11 + 2)
      have z3 := hFW.frz (i * 11 + 3)
      have z4 := hFW.frz (i * 11 + 4)
      have z5 := hFW.frz (i * 11 + 5)
      have z6 := hFW.frz (i * 11 + 6)
      have z7 := hFW.frz (i * 11 + 7)
      have z8 := hFW.frz (i * 11 + 8)
      have z9 := hFW.frz (i * 11 + 9)
      have z10 := hFW.frz (i * 11 + 10)
      clear hFW hfin hbx
      go_wp2_with fail
      have hsr := SR.out
      have hput := HFW.out.put HI.out ({ f with made := f.made ++ [by_] }, (A4, s.2.1, c4), (A3, t.2.1 + 1, c3)) hsr.wf ⟨hsr.pt, hsr.md⟩ (fun _ e => by have := hsr.pa g9 e; omega) (fun _ e => by have := hsr.ma g9 e; omega)
      have hge := HFR.out.ltN g9 rfl
      have hEf := ((HE1.out.trans hsr.e)).set11 (g := g9) hge.1 (i * 11) { f with made := f.made ++ [by_] } (A4, s.2.1, c4) (A3, t.2.1 + 1, c3)
      (try simp only at hput hEf)
      go_ret
      exact HFN.out _ hput hEf
    have n6 : (v == 6) = false := by simpa using v6
    by_cases v7 : v = 7
    · subst v7
      obtain ⟨V, hV⟩ : ∃ V, wa.alloc (.cells #[.int .i64 by_, .int .i64 0, .int .i64 1] 32) = V := ⟨_, rfl⟩
      have hEV : E wa V := by rw [← hV]; exact (E.refl wa).alloc _
      obtain ⟨A3, c3, V1, hrunV, hbV, hSR⟩ := HSA.out.addPart hEV (some ⟨wa.heap.size, 0, none⟩) (by_, 0, 1) (by rw [← hV]; exact lots_made wa [(by_, 0, 1)] (by intro x hx; simp at hx; subst hx; exact ⟨HBY.out, (by decide : (Lit.int .i64 0).wf = true), (by decide : (Lit.int .i64 1).wf = true)⟩) (by simp) (by simp)) (by have := HSL.out; omega) 29
      have SR := Lib.hid hSR
      have LP := Lib.hid (show ({ f with parts := f.parts ++ [(by_, 0, 1)] } : Fl).parts.length ≤ P + 1 ∧ ({ f with parts := f.parts ++ [(by_, 0, 1)] } : Fl).made.length ≤ M + 1 from by have := HZF.out; show (f.parts ++ [(by_, 0, 1)]).length ≤ P + 1 ∧ f.made.length ≤ M + 1; rw [List.length_append, List.length_singleton]; omega)
      have k9 := HSA.out.bx.cells0.2.2.2.2.2.2.2.2.2.1
      have j9 := hbV.cells0.2.2.2.2.2.2.2.2.2.1
      have y9 := hbV.frz 9
      clear hSR hEV hbV
      go_upto_region 39 with (at_builtin; (try rw [hV]); refine wpList_app_runM rfl _ _ rfl rfl rfl hrunV ?_)
      clear k9 j9 y9 hrunV hV
      have hbx := SR.out.bx
      obtain ⟨b0, b1, b2, b3, b4, b5, b6, b7, b8, b9, b10⟩ := hbx.cells0
      (try simp only at b0 b1 b2 b3 b4 b5 b6 b7 b8 b9 b10)
      obtain ⟨⟨hlo, hFW⟩, hfin⟩ := HEND.out _ _ _ _ _ _ _ _ SR.out LP.out.1 LP.out.2
      have HFW := Lib.hid hFW
      have HFN := Lib.hid hfin
      obtain ⟨r0, r1, r2, r3, r4, r5, r6, r7, r8, r9, r10⟩ := hFW.cells HP.out
      have z0 := hFW.frz (i * 11)
      have z1 := hFW.frz (i * 11 + 1)
      have z2 := hFW.frz (i * 11 + 2)
      have z3 := hFW.frz (i * 11 + 3)
      have z4 := hFW.frz (i * 11 + 4)
      have z5 := hFW.frz (i * 11 + 5)
      have z6 := hFW.frz (i * 11 + 6)
      have z7 := hFW.frz (i * 11 + 7)
      have z8 := hFW.frz (i * 11 + 8)
      have z9 := hFW.frz (i * 11 + 9)
      have z10 := hFW.frz (i * 11 + 10)
      clear hFW hfin hbx
      go_wp2_with fail
      have hsr := SR.out
      have hput := HFW.out.put HI.out ({ f with parts := f.parts ++ [(by_, 0, 1)] }, (A3, s.2.1 + 1, c3), (A7, t.2.1, c7)) hsr.wf ⟨hsr.pt, hsr.md⟩ (fun _ e => by have := hsr.pa g9 e; omega) (fun _ e => by have := hsr.ma g9 e; omega)
      have hge := HFR.out.ltN g9 rfl
      have hEf := ((HE1.out.trans hsr.e)).set11 (g := g9) hge.1 (i * 11) { f with parts := f.parts ++ [(by_, 0, 1)] } (A3, s.2.1 + 1, c3) (A7, t.2.1, c7)
      (try simp only at hput hEf)
      go_ret
      exact HFN.out _ hput hEf
    have n7 : (v == 7) = false := by simpa using v7
    by_cases v8 : v = 8
    · subst v8
      have SR := Lib.hid (HSA.out.set_tick by_ HBY.out)
      have LP := Lib.hid (show ({ f with tick := by_ } : Fl).parts.length ≤ P + 1 ∧ ({ f with tick := by_ } : Fl).made.length ≤ M + 1 from by have := HZF.out; show f.parts.length ≤ P + 1 ∧ f.made.length ≤ M + 1; omega)
      have hb0 := HSA.out.bx
      have k3 := hb0.cells0.2.2.2.1
      have y3 := hb0.frz 3
      clear hb0
      go_upto_region 39 with fail
      clear k3 y3
      have hbx := SR.out.bx
      obtain ⟨b0, b1, b2, b3, b4, b5, b6, b7, b8, b9, b10⟩ := hbx.cells0
      (try simp only at b0 b1 b2 b3 b4 b5 b6 b7 b8 b9 b10)
      obtain ⟨⟨hlo, hFW⟩, hfin⟩ := HEND.out _ _ _ _ _ _ _ _ SR.out LP.out.1 LP.out.2
      have HFW := Lib.hid hFW
      have HFN := Lib.hid hfin
      obtain ⟨r0, r1, r2, r3, r4, r5, r6, r7, r8, r9, r10⟩ := hFW.cells HP.out
      have z0 := hFW.frz (i * 11)
      have z1 := hFW.frz (i * 11 + 1)
      have z2 := hFW.frz (i * 11 + 2)
      have z3 := hFW.frz (i * 11 + 3)
      have z4 := hFW.frz (i * 11 + 4)
      have z5 := hFW.frz (i * 11 + 5)
      have z6 := hFW.frz (i * 11 + 6)
      have z7 := hFW.frz (i * 11 + 7)
      have z8 := hFW.frz (i * 11 + 8)
      have z9 := hFW.frz (i * 11 + 9)
      have z10 := hFW.frz (i * 11 + 10)
      clear hFW hfin hbx
      go_wp2_with fail
      have hsr := SR.out
      have hput := HFW.out.put HI.out ({ f with tick := by_ }, (A4, s.2.1, c4), (A7, t.2.1, c7)) hsr.wf ⟨hsr.pt, hsr.md⟩ (fun _ e => by have := hsr.pa g9 e; omega) (fun _ e => by have := hsr.ma g9 e; omega)
      have hge := HFR.out.ltN g9 rfl
      have hEf := ((HE1.out.trans hsr.e)).set11 (g := g9) hge.1 (i * 11) { f with tick := by_ } (A4, s.2.1, c4) (A7, t.2.1, c7)
      (try simp only at hput hEf)
      go_ret
      exact HFN.out _ hput hEf
    have n8 : (v == 8) = false := by simpa using v8
    by_cases v9 : v = 9
    · subst v9
      have SR := Lib.hid (HSA.out.set_actor by_ HBY.out)
      have LP := Lib.hid (show ({ f with actor := by_ } : Fl).parts.length ≤ P + 1 ∧ ({ f with actor := by_ } : Fl).made.length ≤ M + 1 from by have := HZF.out; show f.parts.length ≤ P + 1 ∧ f.made.length ≤ M + 1; omega)
      have hb0 := HSA.out.bx
      have k4 := hb0.cells0.2.2.2.2.1
      have y4 := hb0.frz 4
      clear hb0
      go_upto_region 39 with fail
      clear k4 y4
      have hbx := SR.out.bx
      obtain ⟨b0, b1, b2, b3, b4, b5, b6, b7, b8, b9, b10⟩ := hbx.cells0
      (try simp only at b0 b1 b2 b3 b4 b5 b6 b7 b8 b9 b10)
      obtain ⟨⟨hlo, hFW⟩, hfin⟩ := HEND.out _ _ _ _ _ _ _ _ SR.out LP.out.1 LP.out.2
      have HFW := Lib.hid hFW
      have HFN := Lib.hid hfin
      obtain ⟨r0, r1, r2, r3, r4, r5, r6, r7, r8, r9, r10⟩ := hFW.cells HP.out
      have z0 := hFW.frz (i * 11)
      have z1 := hFW.frz (i * 11 + 1)
      have z2 := hFW.frz (i * 11 + 2)
      have z3 := hFW.frz (i * 11 + 3)
      have z4 := hFW.frz (i * 11 + 4)
      have z5 := hFW.frz (i * 11 + 5)
      have z6 := hFW.frz (i * 11 + 6)
      have z7 := hFW.frz (i * 11 + 7)
      have z8 := hFW.frz (i * 11 + 8)
      have z9 := hFW.frz (i * 11 + 9)
      have z10 := hFW.frz (i * 11 + 10)
      clear hFW hfin hbx
      go_wp2_with fail
      have hsr := SR.out
      have hput := HFW.out.put HI.out ({ f with actor := by_ }, (A4, s.2.1, c4), (A7, t.2.1, c7)) hsr.wf ⟨hsr.pt, hsr.md⟩ (fun _ e => by have := hsr.pa g9 e; omega) (fun _ e => by have := hsr.ma g9 e; omega)
      have hge := HFR.out.ltN g9 rfl
      have hEf := ((HE1.out.trans hsr.e)).set11 (g := g9) hge.1 (i * 11) { f with actor := by_ } (A4, s.2.1, c4) (A7, t.2.1, c7)
      (try simp only at hput hEf)
      go_ret
      exact HFN.out _ hput hEf
    have n9 : (v == 9) = false := by simpa using v9
    by_cases v10 : v = 10
    · subst v10
      have SR := Lib.hid (HSA.out.set_to by_ HBY.out)
      have LP := Lib.hid (show (⟨f.id, f.step, f.kind, f.tick, f.actor, f.frm, by_, f.item, f.n, f.parts, f.made⟩ : Fl).parts.length ≤ P + 1 ∧ (⟨f.id, f.step, f.kind, f.tick, f.actor, f.frm, by_, f.item, f.n, f.parts, f.made⟩ : Fl).made.length ≤ M + 1 from by have := HZF.out; show f.parts.length ≤ P + 1 ∧ f.made.length ≤ M + 1; omega)
      have hb0 := HSA.out.bx
      have k6 := hb0.cells0.2.2.2.2.2.2.1
      have y6 := hb0.frz 6
      clear hb0
      go_upto_region 39 with fail
      clear k6 y6
      have hbx := SR.out.bx
      obtain ⟨b0, b1, b2, b3, b4, b5, b6, b7, b8, b9, b10⟩ := hbx.cells0
      (try simp only at b0 b1 b2 b3 b4 b5 b6 b7 b8 b9 b10)
      obtain ⟨⟨hlo, hFW⟩, hfin⟩ := HEND.out _ _ _ _ _ _ _ _ SR.out LP.out.1 LP.out.2
      have HFW := Lib.hid hFW
      have HFN := Lib.hid hfin
      obtain ⟨r0, r1, r2, r3, r4, r5, r6, r7, r8, r9, r10⟩ := hFW.cells HP.out
      have z0 := hFW.frz (i * 11)
      have z1 := hFW.frz (i * 11 + 1)
      have z2 := hFW.frz (i * 11 + 2)
      have z3 := hFW.frz (i * 11 + 3)
      have z4 := hFW.frz (i * 11 + 4)
      have z5 := hFW.frz (i * 11 + 5)
      have z6 := hFW.frz (i * 11 + 6)
      have z7 := hFW.frz (i * 11 + 7)
      have z8 := hFW.frz (i * 11 + 8)
      have z9 := hFW.frz (i * 11 + 9)
      have z10 := hFW.frz (i * 11 + 10)
      clear hFW hfin hbx
      go_wp2_with fail
      have hsr := SR.out
      have hput := HFW.out.put HI.out (⟨f.id, f.step, f.kind, f.tick, f.actor, f.frm, by_, f.item, f.n, f.parts, f.made⟩, (A4, s.2.1, c4), (A7, t.2.1, c7)) hsr.wf ⟨hsr.pt, hsr.md⟩ (fun _ e => by have := hsr.pa g9 e; omega) (fun _ e => by have := hsr.ma g9 e; omega)
      have hge := HFR.out.ltN g9 rfl
      have hEf := ((HE1.out.trans hsr.e)).set11 (g := g9) hge.1 (i * 11) ⟨f.id, f.step, f.kind, f.tick, f.actor, f.frm, by_, f.item, f.n, f.parts, f.made⟩ (A4, s.2.1, c4) (A7, t.2.1, c7)
      (try simp only at hput hEf)
      go_ret
      exact HFN.out _ hput hEf
    have n10 : (v == 10) = false := by simpa using v10
    by_cases v11 : v = 11
    · subst v11
      rcases Nat.eq_zero_or_pos s.2.1 with hs0 | hs0
      · have SR := Lib.hid HSA.out.ready
        have LP := Lib.hid (show f.parts.length ≤ P + 1 ∧ f.made.length ≤ M + 1 from by have := HZF.out; omega)
        have k9 := HSA.out.bx.cells0.2.2.2.2.2.2.2.2.2.1
        have hs1 : ¬ (0 : Int) < (s.2.1 : Int) := by omega
        (try simp only at k9)
        have HS0 := Lib.hid hs0
        clear hs0
        go_upto_region 39 with fail
        clear k9 hs1
        have hbx := SR.out.bx
        obtain ⟨b0, b1, b2, b3, b4, b5, b6, b7, b8, b9, b10⟩ := hbx.cells0
        (try simp only at b0 b1 b2 b3 b4 b5 b6 b7 b8 b9 b10)
        obtain ⟨⟨hlo, hFW⟩, hfin⟩ := HEND.out _ _ _ _ _ _ _ _ SR.out LP.out.1 LP.out.2
        have HFW := Lib.hid hFW
        have HFN := Lib.hid hfin
        obtain ⟨r0, r1, r2, r3, r4, r5, r6, r7, r8, r9, r10⟩ := hFW.cells HP.out
        have z0 := hFW.frz (i * 11)
        have z1 := hFW.frz (i * 11 + 1)
        have z2 := hFW.frz (i * 11 + 2)
        have z3 := hFW.frz (i * 11 + 3)
        have z4 := hFW.frz (i * 11 + 4)
        have z5 := hFW.frz (i * 11 + 5)
        have z6 := hFW.frz (i * 11 + 6)
        have z7 := hFW.frz (i * 11 + 7)
        have z8 := hFW.frz (i * 11 + 8)
        have z9 := hFW.frz (i * 11 + 9)
        have z10 := hFW.frz (i * 11 + 10)
        clear hFW hfin hbx
        go_wp2_with fail
        have hsr := SR.out
        have hput := HFW.out.put HI.out (f, (A4, s.2.1, c4), (A7, t.2.1, c7)) hsr.wf ⟨hsr.pt, hsr.md⟩ (fun _ e => by have := hsr.pa g9 e; omega) (fun _ e => by have := hsr.ma g9 e; omega)
        have hge := HFR.out.ltN g9 rfl
        have hEf := ((HE1.out.trans hsr.e)).set11 (g := g9) hge.1 (i * 11) f (A4, s.2.1, c4) (A7, t.2.1, c7)
        (try simp only at hput hEf)
        go_ret
        exact HFN.out _ hput hEf
      · obtain ⟨x, l, hpx⟩ : ∃ x l, f.parts = x :: l := by
          cases hfp : f.parts with
          | nil => have h1 := HPL.out.1; rw [hfp] at h1; simp at h1; omega
          | cons x l => exact ⟨x, l, rfl⟩
        obtain ⟨g4, hA4, hn4, ⟨d0, e0, d1, e1⟩, hS0, hS1⟩ := HSA.out.part hpx by_ HBY.out
        have SR := Lib.hid hS1
        have LP := Lib.hid (show ({ f with parts := (x.1, by_, x.2.2) :: l } : Fl).parts.length ≤ P + 1 ∧ ({ f with parts := (x.1, by_, x.2.2) :: l } : Fl).made.length ≤ M + 1 from by have h1 := HZF.out; rw [hpx, List.length_cons] at h1; show (_ :: l).length ≤ P + 1 ∧ f.made.length ≤ M + 1; rw [List.length_cons]; omega)
        have k9 := HSA.out.bx.cells0.2.2.2.2.2.2.2.2.2.1
        (try simp only at k9)
        have hs1 : (0 : Int) < (s.2.1 : Int) := by omega
        subst hA4
        clear hpx hS0 hS1 hs0
        go_upto_region 39 with fail
        clear k9 hs1 d0 d1 e0 e1
        have hbx := SR.out.bx
        obtain ⟨b0, b1, b2, b3, b4, b5, b6, b7, b8, b9, b10⟩ := hbx.cells0
        (try simp only at b0 b1 b2 b3 b4 b5 b6 b7 b8 b9 b10)
        obtain ⟨⟨hlo, hFW⟩, hfin⟩ := HEND.out _ _ _ _ _ _ _ _ SR.out LP.out.1 LP.out.2
        have HFW := Lib.hid hFW
        have HFN := Lib.hid hfin
        obtain ⟨r0, r1, r2, r3, r4, r5, r6, r7, r8, r9, r10⟩ := hFW.cells HP.out
        have z0 := hFW.frz (i * 11)
        have z1 := hFW.frz (i * 11 + 1)
        have z2 := hFW.frz (i * 11 + 2)
        have z3 := hFW.frz (i * 11 + 3)
        have z4 := hFW.frz (i * 11 + 4)
        have z5 := hFW.frz (i * 11 + 5)
        have z6 := hFW.frz (i * 11 + 6)
        have z7 := hFW.frz (i * 11 + 7)
        have z8 := hFW.frz (i * 11 + 8)
        have z9 := hFW.frz (i * 11 + 9)
        have z10 := hFW.frz (i * 11 + 10)
        clear hFW hfin hbx
        go_wp2_with fail
        have hsr := SR.out
        have hput := HFW.out.put HI.out ({ f with parts := (x.1, by_, x.2.2) :: l }, (some ⟨g4, 0, none⟩, s.2.1, c4), (A7, t.2.1, c7)) hsr.wf ⟨hsr.pt, hsr.md⟩ (fun _ e => by have := hsr.pa g9 e; omega) (fun _ e => by have := hsr.ma g9 e; omega)
        have hge := HFR.out.ltN g9 rfl
        have hEf := ((HE1.out.trans hsr.e)).set11 (g := g9) hge.1 (i * 11) { f with parts := (x.1, by_, x.2.2) :: l } (some ⟨g4, 0, none⟩, s.2.1, c4) (A7, t.2.1, c7)
        (try simp only at hput hEf)
        go_ret
        exact HFN.out _ hput hEf
    have n11 : (v == 11) = false := by simpa using v11
    have HVX := Lib.hid (And.intro v0 v1)
    clear v0 v1 v2 v3 v4 v5 v6 v7 v8 v9 v10 v11
    rcases Nat.eq_zero_or_pos s.2.1 with hs0 | hs0
    · have SR := Lib.hid HSA.out.ready
      have LP := Lib.hid (show f.parts.length ≤ P + 1 ∧ f.made.length ≤ M + 1 from by have := HZF.out; omega)
      have k9 := HSA.out.bx.cells0.2.2.2.2.2.2.2.2.2.1
      have hs1 : ¬ (0 : Int) < (s.2.1 : Int) := by omega
      (try simp only at k9)
      have HS0 := Lib.hid hs0
      clear hs0
      go_upto_region 39 with fail
      clear k9 hs1
      have hbx := SR.out.bx
      obtain ⟨b0, b1, b2, b3, b4, b5, b6, b7, b8, b9, b10⟩ := hbx.cells0
      (try simp only at b0 b1 b2 b3 b4 b5 b6 b7 b8 b9 b10)
      obtain ⟨⟨hlo, hFW⟩, hfin⟩ := HEND.out _ _ _ _ _ _ _ _ SR.out LP.out.1 LP.out.2
      have HFW := Lib.hid hFW
      have HFN := Lib.hid hfin
      obtain ⟨r0, r1, r2, r3, r4, r5, r6, r7, r8, r9, r10⟩ := hFW.cells HP.out
      have z0 := hFW.frz (i * 11)
      have z1 := hFW.frz (i * 11 + 1)
      have z2 := hFW.frz (i * 11 + 2)
      have z3 := hFW.frz (i * 11 + 3)
      have z4 := hFW.frz (i * 11 + 4)
      have z5 := hFW.frz (i * 11 + 5)
      have z6 := hFW.frz (i * 11 + 6)
      have z7 := hFW.frz (i * 11 + 7)
      have z8 := hFW.frz (i * 11 + 8)
      have z9 := hFW.frz (i * 11 + 9)
      have z10 := hFW.frz (i * 11 + 10)
      clear hFW hfin hbx
      go_wp2_with fail
      have hsr := SR.out
      have hput := HFW.out.put HI.out (f, (A4, s.2.1, c4), (A7, t.2.1, c7)) hsr.wf ⟨hsr.pt, hsr.md⟩ (fun _ e => by have := hsr.pa g9 e; omega) (fun _ e => by have := hsr.ma g9 e; omega)
      have hge := HFR.out.ltN g9 rfl
      have hEf := ((HE1.out.trans hsr.e)).set11 (g := g9) hge.1 (i * 11) f (A4, s.2.1, c4) (A7, t.2.1, c7)
      (try simp only at hput hEf)
      go_ret
      exact HFN.out _ hput hEf
    · obtain ⟨x, l, hpx⟩ : ∃ x l, f.parts = x :: l := by
        cases hfp : f.parts with
        | nil => have h1 := HPL.out.1; rw [hfp] at h1; simp at h1; omega
        | cons x l => exact ⟨x, l, rfl⟩
      obtain ⟨g4, hA4, hn4, ⟨d0, e0, d1, e1⟩, hS0, hS1⟩ := HSA.out.part hpx by_ HBY.out
      have SR := Lib.hid hS0
      have LP := Lib.hid (show ({ f with parts := (by_, x.2.1, x.2.2) :: l } : Fl).parts.length ≤ P + 1 ∧ ({ f with parts := (by_, x.2.1, x.2.2) :: l } : Fl).made.length ≤ M + 1 from by have h1 := HZF.out; rw [hpx, List.length_cons] at h1; show (_ :: l).length ≤ P + 1 ∧ f.made.length ≤ M + 1; rw [List.length_cons]; omega)
      have k9 := HSA.out.bx.cells0.2.2.2.2.2.2.2.2.2.1
      (try simp only at k9)
      have hs1 : (0 : Int) < (s.2.1 : Int) := by omega
      subst hA4
      clear hpx hS0 hS1 hs0
      go_upto_region 39 with fail
      clear k9 hs1 d0 d1 e0 e1
      have hbx := SR.out.bx
      obtain ⟨b0, b1, b2, b3, b4, b5, b6, b7, b8, b9, b10⟩ := hbx.cells0
      (try simp only at b0 b1 b2 b3 b4 b5 b6 b7 b8 b9 b10)
      obtain ⟨⟨hlo, hFW⟩, hfin⟩ := HEND.out _ _ _ _ _ _ _ _ SR.out LP.out.1 LP.out.2
      have HFW := Lib.hid hFW
      have HFN := Lib.hid hfin
      obtain ⟨r0, r1, r2, r3, r4, r5, r6, r7, r8, r9, r10⟩ := hFW.cells HP.out
      have z0 := hFW.frz (i * 11)
      have z1 := hFW.frz (i * 11 + 1)
      have z2 := hFW.frz (i * 11 + 2)
      have z3 := hFW.frz (i * 11 + 3)
      have z4 := hFW.frz (i * 11 + 4)
      have z5 := hFW.frz (i * 11 + 5)
      have z6 := hFW.frz (i * 11 + 6)
      have z7 := hFW.frz (i * 11 + 7)
      have z8 := hFW.frz (i * 11 + 8)
      have z9 := hFW.frz (i * 11 + 9)
      have z10 := hFW.frz (i * 11 + 10)
      clear hFW hfin hbx
      go_wp2_with fail
      have hsr := SR.out
      have hput := HFW.out.put HI.out ({ f with parts := (by_, x.2.1, x.2.2) :: l }, (some ⟨g4, 0, none⟩, s.2.1, c4), (A7, t.2.1, c7)) hsr.wf ⟨hsr.pt, hsr.md⟩ (fun _ e => by have := hsr.pa g9 e; omega) (fun _ e => by have := hsr.ma g9 e; omega)
      have hge := HFR.out.ltN g9 rfl
      have hEf := ((HE1.out.trans hsr.e)).set11 (g := g9) hge.1 (i * 11) { f with parts := (by_, x.2.1, x.2.2) :: l } (some ⟨g4, 0, none⟩, s.2.1, c4) (A7, t.2.1, c7)
      (try simp only at hput hEf)
      go_ret
      exact HFN.out _ hput hEf
end Go.Proofs.Ytmeplpiamkaniaa
namespace Go.Proofs.Ytmeplpiamkaniaa
set_option linter.unusedVariables false
set_option linter.unusedSimpArgs false
open Go.RowKit
set_option linter.unusedSimpArgs false in
set_option maxHeartbeats 4000000 in
set_option maxRecDepth 100000 in
theorem sameF_c (f : Fl) (A : Option Addr) (n c : Nat) (A' : Option Addr) (n' c' : Nat) (B : Option Addr) (m d : Nat) (B' : Option Addr) (m' d' : Nat) (w : World) (ha : FlB w f (A, n, c) (A', n', c')) (hb : FlB w f (B, m, d) (B', m', d')) :
    Calls Try.prog 33 #[flV f A n c A' n' c', flV f B m d B' m' d'] w (RetK w true) := by
  obtain ⟨w1, hw1⟩ : ∃ w1, w.alloc (.cells #[.int .i64 f.id, .int .i64 f.step, .int .i64 f.kind, .int .i64 f.tick, .int .i64 f.actor, .int .i64 f.frm, .int .i64 f.to, .int .i64 f.item, .int .i64 f.n, .slice A n c, .slice A' n' c'] 47) = w1 := ⟨_, rfl⟩
  have hE1 : E w w1 := by rw [← hw1]; exact (E.refl w).alloc _
  have hb1 : FlBox w1 w.heap.size f (A, n, c) (A', n', c') := by rw [← hw1]; exact FlBox.new w f (A, n, c) (A', n', c')
  obtain ⟨w2, hw2⟩ : ∃ w2, w1.alloc (.cells #[.int .i64 f.id, .int .i64 f.step, .int .i64 f.kind, .int .i64 f.tick, .int .i64 f.actor, .int .i64 f.frm, .int .i64 f.to, .int .i64 f.item, .int .i64 f.n, .slice B m d, .slice B' m' d'] 47) = w2 := ⟨_, rfl⟩
  have hE2 : E w1 w2 := by rw [← hw2]; exact (E.refl w1).alloc _
  have hb2 : FlBox w2 w1.heap.size f (B, m, d) (B', m', d') := by rw [← hw2]; exact FlBox.new w1 f (B, m, d) (B', m', d')
  have HB1 := Lib.hid (hb1.e hE2)
  have HB2 := Lib.hid hb2
  have HE2 := Lib.hid (hE1.trans hE2)
  have hnn : n' = m' := by have h1 := ha.2.len; have h2 := hb.2.len; simp only at h1 h2; omega
  subst hnn
  have HA := Lib.hid (fun W (hE : E w2 W) => show LotsAt W A n c f.parts ∧ Nums .i64 W A' n' c' f.made from ⟨ha.1.e ((hE1.trans hE2).trans hE), ha.2.e ((hE1.trans hE2).trans hE)⟩)
  have HB := Lib.hid (fun W (hE : E w2 W) => show LotsAt W B m d f.parts ∧ Nums .i64 W B' n' d' f.made from ⟨hb.1.e ((hE1.trans hE2).trans hE), hb.2.e ((hE1.trans hE2).trans hE)⟩)
  have hn63 : n' ≤ 9223372036854775807 := ha.2.n63
  have HSS := Lib.hid (same_self A B n c m d f.parts w2 (HA.out w2 (E.refl _)).1 (HB.out w2 (E.refl _)).1)
  obtain ⟨_, _, _, _, _, _, _, _, _, x9, x10⟩ := HB1.out.cells0
  obtain ⟨_, _, _, _, _, _, _, _, _, y9, y10⟩ := hb2.cells0
  clear hE1 hE2 hb1 hb2 ha hb
  unfold flV
  go_enter Try.func33, Try.ntmps33
  go_upto_region 1 with fail
  try rw [hw1]
  try rw [hw2]
  clear hw1 hw2
  go_upto_region 2 with (go_at_call 13; refine HSS.out.mono ?_; rintro e w3 ⟨rfl, hE3⟩)
  have HE3 := Lib.hid hE3
  clear x9 x10 y9 y10 hE3 HSS
  obtain ⟨_, _, _, _, _, _, _, _, _, x9, x10⟩ := (HB1.out.e HE3.out).cells0
  obtain ⟨_, _, _, _, _, _, _, _, _, y9, y10⟩ := (HB2.out.e HE3.out).cells0
  go_upto_region 5 with fail
  clear x9 x10 y9 y10
  go_loopw [6] (fun ti wr => ∃ k : Nat, k ≤ n' ∧ ti = .int .i64 k ∧ E w3 wr) (fun ti _ => n' - (intOf ti).toNat)
  case atStart => exact ⟨0, Nat.zero_le _, rfl, E.refl _⟩
  case round =>
    obtain ⟨k, hk, rfl, hE⟩ := hrel
    have HE := Lib.hid (HE3.out.trans hE)
    obtain ⟨x0, x1, x2, x3, x4, x5, x6, x7, x8, x9, x10⟩ := (HB1.out.e HE.out).cells0
    obtain ⟨y0, y1, y2, y3, y4, y5, y6, y7, y8, y9, y10⟩ := (HB2.out.e HE.out).cells0
    by_cases hlt : k < n'
    · obtain ⟨b, o, v, hAe, _, hv, hwv, hcv⟩ := (HA.out wr HE.out).2.get hlt
      obtain ⟨b2, o2, v2, hBe, _, hv2, hwv2, hcv2⟩ := (HB.out wr HE.out).2.get hlt
      rw [hv] at hv2
      injection hv2 with hv2
      subst hv2
      have hkI : (k : Int) < (n' : Int) := by omega
      rw [hAe] at x10
      rw [hBe] at y10
      clear x0 x1 x2 x3 x4 x5 x6 x7 x8 y0 y1 y2 y3 y4 y5 y6 y7 y8 hv hAe hBe x9 y9
      have HER := Lib.hid hE
      clear hE
      go_upto_region 7 with fail
      (refine wp_region_quiet_lit (by kernel_rfl) (by kernel_rfl) ?_; (repeat (first | ((with_reducible refine wpQuiet_step (fun K hK => ?_)); go_simp; (with_reducible refine hK _ ?_); clear hK K) | ((with_reducible refine wpQuiet_off (by kernel_rfl) (fun K hK => ?_)); go_simp; (with_reducible refine hK _ ?_); clear hK K))); (with_reducible refine wpQuiet_nil ?_); intro _ hw'; obtain ⟨nq, hw''⟩ := hw'; subst hw'')
      go_wp2_with fail
      go_roundw
      case rel => exact ⟨k + 1, by omega, by go_num, HER.out.drewN _⟩
      case measure => simp [intOf]; omega
    · clear hE
      go_wp2_with fail
      go_ret
      exact ⟨by simp, HE2.out.trans HE.out⟩
end Go.Proofs.Ytmeplpiamkaniaa
