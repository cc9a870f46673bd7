/- The package's useless. -/
import Derived.Test.YtpbkfpkgbfifaaaKN
import Derived.Test.YtpbkfpkgbfifaaaCR
namespace Go.Proofs.Ytpbkfpkgbfifaaa
open Go.RowKit

theorem sKeepK2 {N : Nat} {w0 w1 w2 : World} (h : N ≤ w1.heap.size ∧ ∀ b o, b < N → w1.cell? ⟨b, o, none⟩ = w0.cell? ⟨b, o, none⟩) (hE : E w1 w2) : N ≤ w2.heap.size ∧ ∀ b o, b < N → w2.cell? ⟨b, o, none⟩ = w0.cell? ⟨b, o, none⟩ :=
  ⟨Nat.le_trans h.1 hE.le, fun b o hb => (hE.cell (p := ⟨b, o, none⟩) (Nat.lt_of_lt_of_le hb h.1)).trans (h.2 b o hb)⟩
theorem sKeepS2 {N : Nat} {w0 w1 : World} (h : N ≤ w1.heap.size ∧ ∀ b o, b < N → w1.cell? ⟨b, o, none⟩ = w0.cell? ⟨b, o, none⟩) {p : Addr} (hp : N ≤ p.block) (u : Value) : N ≤ (w1.setCell p u).heap.size ∧ ∀ b o, b < N → (w1.setCell p u).cell? ⟨b, o, none⟩ = w0.cell? ⟨b, o, none⟩ := by
  have hB := (Below.refl N w1).setCell hp u
  exact ⟨Nat.le_trans h.1 hB.size, fun b o hb => (hB.cell (p := ⟨b, o, none⟩) hb).trans (h.2 b o hb)⟩
theorem keepE {w1 w2 : World} (hE : E w1 w2) : w1.heap.size ≤ w2.heap.size ∧ ∀ b o, b < w1.heap.size → w2.cell? ⟨b, o, none⟩ = w1.cell? ⟨b, o, none⟩ := ⟨hE.le, fun b o hb => hE.cell (p := ⟨b, o, none⟩) hb⟩
theorem two_at (w0 : World) (x y z x' y' z' : Value) (T T' : TypeId) :
    let W := ((w0.alloc (.cells #[x, y, z] T)).alloc (.cells #[x', y', z'] T')).drew
    E w0 W ∧ W.heap.size = w0.heap.size + 2 ∧ W.cell? ⟨w0.heap.size, 0, none⟩ = some x ∧ W.cell? ⟨w0.heap.size, 1, none⟩ = some y ∧ W.cell? ⟨w0.heap.size, 2, none⟩ = some z ∧
      W.cell? ⟨w0.heap.size + 1, 0, none⟩ = some x' ∧ W.cell? ⟨w0.heap.size + 1, 1, none⟩ = some y' ∧ W.cell? ⟨w0.heap.size + 1, 2, none⟩ = some z' := by
  intro W
  have h1 : W.heap[w0.heap.size]? = some (.cells #[x, y, z] T) := by
    show ((w0.alloc (.cells #[x, y, z] T)).alloc (.cells #[x', y', z'] T')).heap[w0.heap.size]? = _
    rw [Below.heap_alloc _ _ _ (by simp)]
    exact heap_alloc_new _ _
  have h2 : W.heap[w0.heap.size + 1]? = some (.cells #[x', y', z'] T') := by
    have := heap_alloc_new (w0.alloc (.cells #[x, y, z] T)) (.cells #[x', y', z'] T')
    rw [World.size_alloc] at this
    exact this
  have c1 : ∀ k, W.cell? ⟨w0.heap.size, k, none⟩ = #[x, y, z][k]? := fun k => by
    unfold World.cell?; dsimp only; rw [h1]; rfl
  have c2 : ∀ k, W.cell? ⟨w0.heap.size + 1, k, none⟩ = #[x', y', z'][k]? := fun k => by
    unfold World.cell?; dsimp only; rw [h2]; rfl
  exact ⟨(((E.refl w0).alloc _).alloc _).drew, by show ((w0.alloc (.cells #[x, y, z] T)).alloc (.cells #[x', y', z'] T')).heap.size = _; simp, c1 0, c1 1, c1 2, c2 0, c2 1, c2 2⟩
theorem two_a (w0 : World) (x y z x' y' z' : Value) (T : TypeId) : ∃ Ba Bb : Nat, Value.pointer (some ⟨w0.heap.size, 0, none⟩) = .pointer (some ⟨Ba, 0, none⟩) ∧ Value.pointer (some ⟨w0.heap.size + 1, 0, none⟩) = .pointer (some ⟨Bb, 0, none⟩) ∧
    Ba < (((w0.alloc (.cells #[x, y, z] T)).alloc (.cells #[x', y', z'] T)).drew).heap.size ∧ Bb < (((w0.alloc (.cells #[x, y, z] T)).alloc (.cells #[x', y', z'] T)).drew).heap.size ∧ E w0 (((w0.alloc (.cells #[x, y, z] T)).alloc (.cells #[x', y', z'] T)).drew) ∧
    (((w0.alloc (.cells #[x, y, z] T)).alloc (.cells #[x', y', z'] T)).drew).cell? ⟨Ba, 0, none⟩ = some x ∧ (((w0.alloc (.cells #[x, y, z] T)).alloc (.cells #[x', y', z'] T)).drew).cell? ⟨Ba, 1, none⟩ = some y ∧ (((w0.alloc (.cells #[x, y, z] T)).alloc (.cells #[x', y', z'] T)).drew).cell? ⟨Ba, 2, none⟩ = some z ∧
    (((w0.alloc (.cells #[x, y, z] T)).alloc (.cells #[x', y', z'] T)).drew).cell? ⟨Bb, 0, none⟩ = some x' ∧ (((w0.alloc (.cells #[x, y, z] T)).alloc (.cells #[x', y', z'] T)).drew).cell? ⟨Bb, 1, none⟩ = some y' := by
  obtain ⟨h1, h2, h3, h4, h5, h6, h7, _⟩ := two_at w0 x y z x' y' z' T T
  exact ⟨_, _, rfl, rfl, by rw [h2]; omega, by rw [h2]; omega, h1, h3, h4, h5, h6, h7⟩
theorem two_b (w0 : World) (x y z x' y' z' : Value) (T : TypeId) : ∃ Ba Bb : Nat, Value.pointer (some ⟨w0.heap.size + 1, 0, none⟩) = .pointer (some ⟨Ba, 0, none⟩) ∧ Value.pointer (some ⟨w0.heap.size, 0, none⟩) = .pointer (some ⟨Bb, 0, none⟩) ∧
    Ba < (((w0.alloc (.cells #[x', y', z'] T)).alloc (.cells #[x, y, z] T)).drew).heap.size ∧ Bb < (((w0.alloc (.cells #[x', y', z'] T)).alloc (.cells #[x, y, z] T)).drew).heap.size ∧ E w0 (((w0.alloc (.cells #[x', y', z'] T)).alloc (.cells #[x, y, z] T)).drew) ∧
    (((w0.alloc (.cells #[x', y', z'] T)).alloc (.cells #[x, y, z] T)).drew).cell? ⟨Ba, 0, none⟩ = some x ∧ (((w0.alloc (.cells #[x', y', z'] T)).alloc (.cells #[x, y, z] T)).drew).cell? ⟨Ba, 1, none⟩ = some y ∧ (((w0.alloc (.cells #[x', y', z'] T)).alloc (.cells #[x, y, z] T)).drew).cell? ⟨Ba, 2, none⟩ = some z ∧
    (((w0.alloc (.cells #[x', y', z'] T)).alloc (.cells #[x, y, z] T)).drew).cell? ⟨Bb, 0, none⟩ = some x' ∧ (((w0.alloc (.cells #[x', y', z'] T)).alloc (.cells #[x, y, z] T)).drew).cell? ⟨Bb, 1, none⟩ = some y' := by
  obtain ⟨h1, h2, h3, h4, h5, h6, h7, h8⟩ := two_at w0 x' y' z' x y z T T
  exact ⟨_, _, rfl, rfl, by rw [h2]; omega, by rw [h2]; omega, h1, h6, h7, h8, h3, h4⟩
theorem useless1_c (b m B : Nat) (f : Int → Bool) (t : Int) (w : World) (ht : (Lit.int .i64 t).wf = true) (hB : w.cell? ⟨B, 0, none⟩ = some (.map (some b))) (hS : SetB w b m f) :
    Calls Try.prog 71 #[.int .i64 t, .pointer (some ⟨B, 0, none⟩)] w (RetK w (!f t)) := by
  have hl := hS.look ht
  clear hS
  go_enter Try.func71, Try.ntmps71
  go_wp2_with fail
  go_ret
  exact ⟨rfl, E.refl _⟩

theorem useB_eq (l : List Bd) (i j : Nat) {x y : Bd} (hx : l.getD i bd0 = x) (hy : l.getD j bd0 = y) : useB l i j = (x.1 == y.1 && (decide (y.2.1 < x.2.1) || (x.2.1 == y.2.1 && decide (i < j))) && x.2.2.all fun t => y.2.2.contains t) := by
  unfold useB; rw [hx, hy]
set_option maxHeartbeats 4000000 in
set_option maxRecDepth 100000 in
theorem useless_c (A : Option Addr) (n c : Nat) (l : List Bd) (i j b m : Nat) (w : World) (h : BidsAt w A n c l) (hi : i < n) (hj : j < n) (hS : SetB w b m (fun t => (l.getD j bd0).2.2.contains t)) :
    Calls Try.prog 55 #[.slice A n c, .int .i64 i, .int .i64 j, .map (some b)] w (RetK w (useB l i j)) := by
  have hm := h.n63
  obtain ⟨bb, o, x, A1, n1, c1, rfl, hb, hx, hv1, hv2, hN, hcs⟩ := h.item hi
  obtain ⟨b', o', y, A1', n1', c1', e3, hb', hy, hv1', hv2', hN', hcs'⟩ := h.item hj
  injection e3 with e3
  injection e3 with e3 e4
  subst e3 e4
  have hgx : l.getD i bd0 = x := by rw [List.getD_eq_getElem?_getD, hx]; rfl
  have hgy : l.getD j bd0 = y := by rw [List.getD_eq_getElem?_getD, hy]; rfl
  have HU := Lib.hid (useB_eq l i j hgx hgy)
  obtain ⟨p1, p2, p3⟩ := hcs w (E.refl _)
  obtain ⟨q1, q2, q3⟩ := hcs' w (E.refl _)
  rw [hgy] at hS
  obtain ⟨res, hres⟩ : ∃ res, useB l i j = res := ⟨_, rfl⟩
  rw [hres] at HU ⊢
  have hiI : (i : Int) < (n : Int) := by omega
  have hjI : (j : Int) < (n : Int) := by omega
  obtain ⟨xb, xp, xl⟩ := x
  obtain ⟨yb, yp, yl⟩ := y
  simp only at *
  have hx1 := wf_i64 hv1
  clear hres hgx hgy hx hy hcs hcs' h
  go_enter Try.func55, Try.ntmps55
  go_wp2_with fail
  have hE0 : E w (w.alloc (.cells #[.map (some b)] 78)) := (E.refl w).alloc _
  have hbox := cell_new w (.map (some b)) 78
  have hszb : w.heap.size < (w.alloc (.cells #[.map (some b)] 78)).heap.size := by simp
  replace p1 := (hE0.cell (p := ⟨bb, _, none⟩) hb).trans p1
  replace p2 := (hE0.cell (p := ⟨bb, _, none⟩) hb).trans p2
  replace p3 := (hE0.cell (p := ⟨bb, _, none⟩) hb).trans p3
  replace q1 := (hE0.cell (p := ⟨bb, _, none⟩) hb).trans q1
  replace q2 := (hE0.cell (p := ⟨bb, _, none⟩) hb).trans q2
  replace q3 := (hE0.cell (p := ⟨bb, _, none⟩) hb).trans q3
  have hb0 : bb < (w.alloc (.cells #[.map (some b)] 78)).heap.size := Nat.lt_of_lt_of_le hb hE0.le
  generalize w.alloc (.cells #[.map (some b)] 78) = w0 at *
  go_upto_region 1 with fail
  go_cut [9, 10] (fun s9 s10 wx => ∃ Ba Bb : Nat, s9 = .pointer (some ⟨Ba, 0, none⟩) ∧ s10 = .pointer (some ⟨Bb, 0, none⟩) ∧ Ba < wx.heap.size ∧ Bb < wx.heap.size ∧ E w0 wx ∧
      wx.cell? ⟨Ba, 0, none⟩ = some (.int .i64 xb) ∧ wx.cell? ⟨Ba, 1, none⟩ = some (.int .i64 xp) ∧ wx.cell? ⟨Ba, 2, none⟩ = some (.slice A1 n1 c1) ∧
      wx.cell? ⟨Bb, 0, none⟩ = some (.int .i64 yb) ∧ wx.cell? ⟨Bb, 1, none⟩ = some (.int .i64 yp))
  case first =>
    go_region_held3 (fun w' => w0.heap.size ≤ w'.heap.size ∧ ∀ b o, b < w0.heap.size → w'.cell? ⟨b, o, none⟩ = w0.cell? ⟨b, o, none⟩) (first | exact keepE (E.refl _) | exact keepE (E.refl _).drew | exact keepE (((E.refl _).alloc _).alloc _).drew | exact keepE ((E.refl _).alloc _).drew | exact keepE (((E.refl _).alloc _).alloc _) | exact sKeepK2 (by assumption) ((E.refl _).alloc _)) (fail)
    all_goals
      go_wp2_with fail
      go_meet
      first
        | exact two_a _ _ _ _ _ _ _ _
        | exact two_b _ _ _ _ _ _ _ _
  case rest =>
    obtain ⟨Ba, Bb, rfl, rfl, hBa, hBb, hEx, r1, r2, r3, r4, r5⟩ := hcut
    generalize wc = w1 at *
    have hEw : E w w1 := hE0.trans hEx
    have hS1 := hS.e hEw
    have hbx1 := (hEx.cell (p := ⟨w.heap.size, 0, none⟩) hszb).trans hbox
    have hN1 := hN.e hEw
    clear p1 p2 p3 q1 q2 q3 hbox hN hN' hS
    by_cases c1' : xb = yb
    · subst c1'
      by_cases c2 : xp < yp
      · have HF := Lib.hid (show res = false by rw [HU.out]; have h2 : ¬ yp < xp := (by omega); have h3 : ¬ xp = yp := (by omega); simp [h2, h3])
        go_wp2_with fail
        go_ret
        exact ⟨ret_bool HF.out.symm, hEw⟩
      · have hcall := Try.call71
        have HC := Lib.hid (containsFunc_c 71 [.pointer (some ⟨w.heap.size, 0, none⟩)] (fun t => !yl.contains t) A1 n1 c1 xl w1 hN1 hcall
          (fun t wr ht hE => useless1_c b m w.heap.size _ t wr (hN1.wf t ht) (by rw [hE.cell (p := ⟨w.heap.size, 0, none⟩) (Nat.lt_of_lt_of_le hszb hEx.le)]; exact hbx1) (hS1.e hE)))
        have hany : (xl.all fun t => yl.contains t) = !(xl.any fun t => !yl.contains t) := by
          rw [Bool.eq_iff_iff]; simp
        obtain ⟨r, hr⟩ : ∃ r, (xl.any fun t => !yl.contains t) = r := ⟨_, rfl⟩
        rw [hr] at HC hany
        have HA := Lib.hid hany
        clear hany hr hS1 hN1
        by_cases c3 : xp = yp
        · subst c3
          by_cases c4 : (j : Int) ≤ (i : Int)
          · have HF := Lib.hid (show res = false by rw [HU.out]; have h2 : ¬ i < j := (by omega); simp [h2])
            go_wp2_with fail
            go_ret
            exact ⟨ret_bool HF.out.symm, hEw⟩
          · have HF := Lib.hid (show res = !r by rw [HU.out, HA.out]; have h2 : i < j := (by omega); simp [h2])
            go_wp2_with fail
            refine HC.out.mono ?_
            rintro e w2 ⟨rfl, hE2⟩
            go_wp2_with fail
            go_ret
            exact ⟨ret_bool HF.out.symm, hEw.trans hE2⟩
        · have HF := Lib.hid (show res = !r by rw [HU.out, HA.out]; have h2 : yp < xp := (by omega); simp [h2])
          go_wp2_with fail
          refine HC.out.mono ?_
          rintro e w2 ⟨rfl, hE2⟩
          go_wp2_with fail
          go_ret
          exact ⟨ret_bool HF.out.symm, hEw.trans hE2⟩
    · have HF := Lib.hid (show res = false by rw [HU.out]; simp [c1'])
      go_wp2_with fail
      go_ret
      exact ⟨ret_bool HF.out.symm, hEw⟩
end Go.Proofs.Ytpbkfpkgbfifaaa
