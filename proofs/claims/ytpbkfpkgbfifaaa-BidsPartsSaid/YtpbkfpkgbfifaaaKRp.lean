/- The model's Groups and Parts; the law's same. -/
import Derived.Test.YtpbkfpkgbfifaaaKGn
import Derived.Test.YtpbkfpkgbfifaaaCU
namespace Go.Proofs.Ytpbkfpkgbfifaaa
open Go.RowKit

theorem ints_get {l : List Nat} {i : Nat} {x : Int} (h : (ints l)[i]? = some x) : x = ((l.getD i 0 : Nat) : Int) := by
  unfold ints at h
  rw [List.getElem?_map] at h
  cases hg : l[i]? with
  | none => rw [hg] at h; cases h
  | some y => rw [hg] at h; injection h with h; rw [List.getD_eq_getElem?_getD, hg, ← h]; rfl
theorem ints_set (l : List Nat) (i v : Nat) : (ints l).set i (v : Int) = ints (l.set i v) := by unfold ints; rw [List.map_set]
theorem growK_len {l : List Bd} {o : List Nat} (h : GI l o) {i : Nat} (hi : i < l.length) {k : Nat} (hk : k ≤ l.length) : (growK l i o k).length = l.length := (growK_spec h hi k hk).1.len
set_option maxHeartbeats 8000000 in
set_option maxRecDepth 100000 in
theorem refGroups_c (A : Option Addr) (n c : Nat) (l : List Bd) (w : World) (h : BidsAt w A n c l) (hn : n ≤ 1000) :
    Calls Try.prog 60 #[.slice A n c] w (RetOwn .i64 3 w (ints (groupsF l))) := by
  have hl := h.len
  obtain ⟨M, hM⟩ := least_fun l
  have HGI := Lib.hid (fun p => (groupsK_spec hM p).1)
  clear hM
  go_enter Try.func60, Try.ntmps60
  go_wp2_with fail
  go_loopw [3, 4] (fun tl ti wr => ∃ (i c' : Nat) (A' : Option Addr), i ≤ n ∧ ti = .int .i64 i ∧ tl = .slice A' i c' ∧ Own .i64 3 wr w.heap.size A' i c' (ints (List.range i)) ∧ E w wr) (fun _ ti _ => n - (intOf ti).toNat)
  case atStart => exact ⟨0, 0, none, Nat.zero_le _, rfl, rfl, Own.nil _ _ _ _, E.refl _⟩
  case round =>
    obtain ⟨i, c', A', hi, rfl, rfl, hO, hE⟩ := hrel
    by_cases hil : (i : Int) < (n : Int)
    · have HK := Lib.hid (show List.range (i + 1) = List.range i ++ [i] from List.range_succ)
      go_wp2_with (first | (refine wpList_app1n intTk _ rfl _ _ rfl w.heap.size _ _ _ _ rfl hO (i : Int) rfl (wf_of_i64 (by omega) (by omega)) (by omega) hE.le ?_; intro g' c9 w9 hO9 hG9 hB9 _) | fail)
      go_roundw
      case rel => exact ⟨i + 1, c9, _, by omega, by go_num, rfl, by rw [HK.out, ints_app]; exact hO9, hE.up hB9⟩
      case measure => simp [intOf]; omega
    · have hin : i = n := by omega
      subst hin
      have hO0 : Own .i64 3 wr w.heap.size A' i c' (ints (groupsK l 0)) := by unfold groupsK; rw [hl]; exact hO
      clear hO
      go_wp2_with fail
      go_loopw [5] (fun ti wr => ∃ (p : Nat), p ≤ i ∧ ti = .int .i64 p ∧ Own .i64 3 wr w.heap.size A' i c' (ints (groupsK l p)) ∧ E w wr) (fun ti _ => i - (intOf ti).toNat)
      case atStart => exact ⟨0, Nat.zero_le _, rfl, hO0, hE⟩
      case round =>
        clear hO0 hE
        obtain ⟨p, hp, rfl, hO, hE⟩ := hrel
        by_cases hpl : (p : Int) < (i : Int)
        · have HG := Lib.hid (HGI.out p)
          have HN := Lib.hid (show groupsK l (p + 1) = gpassK l (groupsK l p) i by rw [groupsK, hl])
          generalize groupsK l p = o0 at *
          go_wp2_with fail
          go_loopw [6] (fun ti wr => ∃ (x : Nat), x ≤ i ∧ ti = .int .i64 x ∧ Own .i64 3 wr w.heap.size A' i c' (ints (gpassK l o0 x)) ∧ E w wr) (fun ti _ => i - (intOf ti).toNat)
          case atStart => exact ⟨0, Nat.zero_le _, rfl, hO, hE⟩
          case round =>
            clear hO hE
            obtain ⟨x, hx, rfl, hO, hE⟩ := hrel
            by_cases hxl : (x : Int) < (i : Int)
            · have HG1 := Lib.hid ((gpassK_spec HG.out x (by omega)).1)
              have HN1 := Lib.hid (show gpassK l o0 (x + 1) = growK l x (gpassK l o0 x) i by rw [gpassK_succ, hl])
              generalize gpassK l o0 x = o1 at *
              obtain ⟨b, o, xx, A1, n1, c1, rfl, hb, hxx, hv1, hv2, hN', hcs⟩ := h.item (i := x) (by omega)
              have hgx : l.getD x bd0 = xx := by rw [List.getD_eq_getElem?_getD, hxx]; rfl
              clear hxx
              go_wp2_with fail
              go_loopw [7] (fun ti wr => ∃ (k : Nat), k ≤ i ∧ ti = .int .i64 k ∧ Own .i64 3 wr w.heap.size A' i c' (ints (growK l x o1 k)) ∧ E w wr) (fun ti _ => i - (intOf ti).toNat)
              case atStart => exact ⟨0, Nat.zero_le _, rfl, hO, hE⟩
              case round =>
                clear hO hE
                obtain ⟨k, hk, rfl, hO, hE⟩ := hrel
                by_cases hkl : (k : Int) < (i : Int)
                · have HN2 := Lib.hid (growK_succ l x o1 k)
                  generalize growK l x o1 k = o2 at *
                  obtain ⟨b', o', yy, A2, n2, c2, e3, hb', hyy, hv1', hv2', hN2, hcs'⟩ := h.item (i := k) (by omega)
                  have hgy : l.getD k bd0 = yy := by rw [List.getD_eq_getElem?_getD, hyy]; rfl
                  injection e3 with e3
                  injection e3 with e3 e4
                  subst e3 e4
                  clear hyy
                  obtain ⟨p1, p2, p3⟩ := hcs wr hE
                  obtain ⟨q1, q2, q3⟩ := hcs' wr hE
                  have HC := Lib.hid (fun W (hW : E wr W) => refConflict_c xx yy A1 A2 n1 c1 n2 c2 W ((hN'.e hE).e hW) ((hN2.e hE).e hW))
                  have hgi : gin l x o2 k = if confl xx yy = true ∧ o2.getD k 0 < o2.getD x 0 then o2.set x (o2.getD k 0) else o2 := by unfold gin; rw [hgx, hgy]
                  rw [hgi] at HN2
                  unfold bdV at HC
                  generalize confl xx yy = cf at HC HN2
                  clear hgi
                  obtain ⟨g, vk, hAg, hgb, hgl, hvk, hwk, hck, hfk⟩ := hO.get (i := k) (by omega)
                  obtain ⟨g2, vx, hAg2, _, _, hvx, hwx, hcx, hfx⟩ := hO.get (i := x) (by omega)
                  rw [hAg] at hAg2
                  injection hAg2 with hAg2
                  injection hAg2 with hAg2
                  subst hAg2
                  have hvk' := ints_get hvk
                  have hvx' := ints_get hvx
                  obtain ⟨xb, xp, xl⟩ := xx
                  obtain ⟨yb, yp, yl⟩ := yy
                  simp only at *
                  subst hAg
                  go_wp2_with fail
                  go_still_tail 8, (by kernel_rfl)
                  go_wp2_with fail
                  refine (HC.out _ ((E.refl wr).drew)).mono ?_
                  rintro e w1 ⟨rfl, hE1⟩
                  have hE01 := ((E.refl wr).drew).trans hE1
                  have hO1 := hO.e hE01
                  have hEw1 := hE.trans hE01
                  have hck1 := (hE01.cell (p := ⟨g, k, none⟩) hgl).trans hck
                  have hcx1 := (hE01.cell (p := ⟨g, x, none⟩) hgl).trans hcx
                  obtain ⟨_, _, _, _, _, _, _, hfx1⟩ : ∃ vx', w.heap.size ≤ g ∧ g < w1.heap.size ∧ (ints o2)[x]? = some vx' ∧ (Lit.int .i64 vx').wf = true ∧ w1.cell? ⟨g, x, none⟩ = some (.int .i64 vx') ∧ True ∧ w1.frozen? ⟨g, x, none⟩ = false := by
                    obtain ⟨v, a1, a2, a3, a4, a5, a6⟩ := hO1.getg (i := x) (by omega)
                    exact ⟨v, a1, a2, a3, a4, a5, trivial, a6⟩
                  clear HC hO hE p1 p2 p3 q1 q2 q3 hck hcx hE01 hE1 hfk hfx
                  cases cf
                  · have HF := Lib.hid (show growK l x o1 (k + 1) = o2 by rw [HN2.out]; simp)
                    go_wp2_with fail
                    go_quiet (fail)
                    go_wp2_with fail
                    exact ⟨⟨k + 1, by omega, by go_num, by rw [HF.out]; exact hO1.e ((E.refl _).drewN _), hEw1.drewN _⟩, by simp [intOf]; omega⟩
                  · by_cases hv : vk < vx
                    · have HF := Lib.hid (show growK l x o1 (k + 1) = o2.set x (o2.getD k 0) by rw [HN2.out, if_pos ⟨rfl, by omega⟩])
                      have HVK := Lib.hid hvk'
                      clear hvk' hvx'
                      go_wp2_with fail
                      have d0 : decide (vk < vx) = true := by simpa using hv
                      go_quiet (fail)
                      go_wp2_with fail
                      exact ⟨⟨k + 1, by omega, by go_num, by rw [HF.out, ← ints_set, ← HVK.out]; exact (hO1.e ((E.refl _).drewN _)).set x vk hwk, (hEw1.drewN _).setCell hgb _⟩, by simp [intOf]; omega⟩
                    · have HF := Lib.hid (show growK l x o1 (k + 1) = o2 by rw [HN2.out, if_neg (fun h => by omega)])
                      clear hvk' hvx'
                      go_wp2_with fail
                      have d0 : decide (vk < vx) = false := by simpa using hv
                      go_quiet (fail)
                      go_wp2_with fail
                      exact ⟨⟨k + 1, by omega, by go_num, by rw [HF.out]; exact hO1.e ((E.refl _).drewN _), hEw1.drewN _⟩, by simp [intOf]; omega⟩
                · have hkn : k = i := by omega
                  subst hkn
                  have HF := Lib.hid (show gpassK l o0 (x + 1) = growK l x o1 k from HN1.out)
                  clear HN1
                  go_wp2_with fail
                  exact ⟨⟨x + 1, by omega, by go_num, by rw [HF.out]; exact hO, hE⟩, by simp [intOf]; omega⟩
            · have hxn : x = i := by omega
              subst hxn
              go_wp2_with fail
              exact ⟨⟨p + 1, by omega, by go_num, by rw [HN.out]; exact hO, hE⟩, by simp [intOf]; omega⟩
        · have hpn : p = i := by omega
          subst hpn
          have HF := Lib.hid (show groupsF l = groupsK l p by unfold groupsF; rw [hl])
          go_wp2_with fail
          go_ret
          exact ⟨_, _, _, rfl, by rw [HF.out]; exact hO, hE⟩
end Go.Proofs.Ytpbkfpkgbfifaaa
