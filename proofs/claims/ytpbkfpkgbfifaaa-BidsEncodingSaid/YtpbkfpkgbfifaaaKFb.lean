/- The package's Feasible, for any list of numbers. -/
import Derived.Test.YtpbkfpkgbfifaaaKRg
import Derived.Test.YtpbkfpkgbfifaaaKFe
namespace Go.Proofs.Ytpbkfpkgbfifaaa
open Go.RowKit

def bdZ (l : List Bd) (i : Int) : Bd := l.getD i.toNat bd0
def fB (l : List Bd) (pre : List Int) (y : Int) : Bool := pre.any fun i => (bdZ l i).1 == y
def fL (l : List Bd) (pre : List Int) (t : Int) : Bool := pre.any fun i => (bdZ l i).2.2.contains t
theorem fB_snoc (l : List Bd) (pre : List Int) (i y : Int) : fB l (pre ++ [i]) y = (y == (bdZ l i).1 || fB l pre y) := by
  unfold fB
  rw [List.any_append, Bool.or_comm]
  simp only [List.any_cons, List.any_nil, Bool.or_false]
  congr 1
  rw [Bool.eq_iff_iff]; simp; exact eq_comm
theorem fL_snoc (l : List Bd) (pre : List Int) (i t : Int) : fL l (pre ++ [i]) t = ((bdZ l i).2.2.contains t || fL l pre t) := by
  unfold fL
  rw [List.any_append, Bool.or_comm]
  simp
theorem toN_get {win : List Int} {i : Nat} {y : Int} (h : win[i]? = some y) : (toN win).getD i 0 = y.toNat := by
  rw [toN, List.getD_eq_getElem?_getD, List.getElem?_map, h]; rfl
theorem fB_hit {l : List Bd} {win : List Int} {k : Nat} {y : Int} (hy : win[k]? = some y) (h : fB l (win.take k) (bdZ l y).1 = true) : apartB l (toN win) = false := by
  unfold fB at h
  rw [List.any_eq_true] at h
  obtain ⟨i, hi, he⟩ := h
  obtain ⟨j, hj, rfl⟩ := List.getElem_of_mem hi
  rw [List.length_take] at hj
  rw [List.getElem_take] at he
  refine apart_not (i := k) (k := j) (List.getElem?_eq_some_iff.1 hy).1 (by omega) ?_
  rw [toN_get hy, toN_get (List.getElem?_eq_getElem (by omega))]
  unfold confl
  rw [Bool.or_eq_true]
  left
  simp only [beq_iff_eq] at he ⊢
  exact he.symm
theorem fL_hit {l : List Bd} {win : List Int} {k : Nat} {y t : Int} (hy : win[k]? = some y) (ht : t ∈ (bdZ l y).2.2) (h : fL l (win.take k) t = true) : apartB l (toN win) = false := by
  unfold fL at h
  rw [List.any_eq_true] at h
  obtain ⟨i, hi, he⟩ := h
  obtain ⟨j, hj, rfl⟩ := List.getElem_of_mem hi
  rw [List.length_take] at hj
  rw [List.getElem_take] at he
  refine apart_not (i := k) (k := j) (List.getElem?_eq_some_iff.1 hy).1 (by omega) ?_
  rw [toN_get hy, toN_get (List.getElem?_eq_getElem (by omega))]
  unfold confl
  rw [Bool.or_eq_true]
  right
  rw [List.any_eq_true]
  exact ⟨t, ht, he⟩
theorem nc_of {l : List Bd} {win : List Int} {k : Nat} {y : Int} (hy : win[k]? = some y) (h1 : fB l (win.take k) (bdZ l y).1 = false) (h2 : ∀ t ∈ (bdZ l y).2.2, fL l (win.take k) t = false) : ∀ j, j < k → NC l win k j := by
  intro j hj
  have hk := (List.getElem?_eq_some_iff.1 hy).1
  unfold NC
  rw [toN_get hy, toN_get (List.getElem?_eq_getElem (show j < win.length by omega))]
  have hm : win[j] ∈ win.take k := List.mem_iff_getElem.2 ⟨j, by rw [List.length_take]; omega, by rw [List.getElem_take]⟩
  unfold confl
  rw [Bool.or_eq_false_iff]
  constructor
  · unfold fB at h1
    rw [List.any_eq_false] at h1
    have := h1 _ hm
    simp only [beq_iff_eq] at this
    simp only [beq_eq_false_iff_ne]
    exact fun e => this e.symm
  · rw [List.any_eq_false]
    intro t ht hc
    have := h2 t ht
    unfold fL at this
    rw [List.any_eq_false] at this
    exact this _ hm hc

set_option maxHeartbeats 8000000 in
set_option maxRecDepth 100000 in
theorem bFeasible_c (A : Option Addr) (n c : Nat) (l : List Bd) (A2 : Option Addr) (n2 c2 : Nat) (win : List Int) (w : World) (h : BidsAt w A n c l) (h2 : Nums .i64 w A2 n2 c2 win) (hn2 : n2 ≤ 1000) (hlt : ∀ x ∈ l, x.2.2.length ≤ 1000) :
    Calls Try.prog 28 #[.slice A n c, .slice A2 n2 c2] w (RetK w (feasZ l win)) := by
  have hm := h.n63
  have hl := h.len
  have hl2 := h2.len
  have HLT := Lib.hid hlt
  obtain ⟨fin, hfin⟩ : ∃ fin, feasZ l win = fin := ⟨_, rfl⟩
  rw [hfin]
  have HFIN := Lib.hid hfin
  have hmm := @run_makeMap Try.prog
  clear hfin hlt
  go_enter Try.func28, Try.ntmps28
  go_wp2_with fail
  have hM1 := (SetB.made w).e ((E.refl _).alloc (.map #[] 0))
  have hM2 := SetB.made (w.alloc (.map #[] 0))
  rw [World.size_alloc] at hM2
  have hE0 : E w ((w.alloc (.map #[] 0)).alloc (.map #[] 0)) := ((E.refl w).alloc _).alloc _
  have hz0 : ((w.alloc (.map #[] 0)).alloc (.map #[] 0)).heap.size = w.heap.size + 2 := by simp
  have HZ0 := Lib.hid hz0
  clear hz0 hmm
  generalize (w.alloc (.map #[] 0)).alloc (.map #[] 0) = w0 at *
  go_loopw [7, 17] (fun tl ti wr => ∃ (k m1 m2 : Nat) (last : Int), k ≤ n2 ∧ ti = .int .i64 k ∧ tl = .int .i64 last ∧ SetB wr w.heap.size m1 (fB l (win.take k)) ∧ SetB wr (w.heap.size + 1) m2 (fL l (win.take k)) ∧ m1 ≤ k ∧ m2 ≤ k * 1000 ∧ E w wr ∧ w.heap.size + 2 ≤ wr.heap.size ∧ -1 ≤ last ∧ last < (n : Int) + 1 ∧
      Hid (lotsOk n last (win.drop k) = lotsOk n (-1) win ∧ ∀ i' k', i' < k → k' < i' → NC l win i' k')) (fun _ ti _ => n2 - (intOf ti).toNat)
  case atStart => exact ⟨0, 0, 0, -1, Nat.zero_le _, rfl, rfl, hM1, hM2, Nat.le_refl _, by omega, hE0, by have := HZ0.out; omega, by omega, by omega, rfl, fun i' k' hi => absurd hi (by omega)⟩
  case round =>
    obtain ⟨k, m1, m2, last, hk, rfl, rfl, hS1, hS2, hm1, hm2, hE, hsz, hl0, hl1, hinv⟩ := hrel
    clear hM1 hM2 hE0 HZ0
    by_cases hkl : (k : Int) < (n2 : Int)
    · obtain ⟨b2, o2, y, rfl, hb2, hy, hwy, hcy⟩ := (h2.e hE).get (i := k) (by omega)
      have hyr := wf_i64 hwy
      have HL := Lib.hid (show (decide (last < y) && decide (y < n) && lotsOk n y (win.drop (k + 1))) = lotsOk n (-1) win by rw [← hinv.out.1, drop_at hy]; rfl)
      have HY := Lib.hid hy
      clear hy hwy
      by_cases c1 : y ≤ last
      · have HF := Lib.hid (show fin = false by
          have : lotsOk n (-1) win = false := by rw [← HL.out]; simp; omega
          rw [← HFIN.out, feasZ, hl, this]; rfl)
        clear hinv
        go_wp2_with fail
        try go_quiet (fail)
        all_goals go_wp2_with fail
        go_ret
        first
          | exact ⟨ret_bool HF.out.symm, hE⟩
          | exact ⟨ret_bool HF.out.symm, hE.drewN _⟩
      by_cases c2 : (n : Int) ≤ y
      · have HF := Lib.hid (show fin = false by
          have : lotsOk n (-1) win = false := by rw [← HL.out]; simp; omega
          rw [← HFIN.out, feasZ, hl, this]; rfl)
        clear hinv
        go_wp2_with fail
        have d0 : decide (y ≤ last) = false := by simp; omega
        try go_quiet (fail)
        all_goals go_wp2_with fail
        go_ret
        first
          | exact ⟨ret_bool HF.out.symm, hE⟩
          | exact ⟨ret_bool HF.out.symm, hE.drewN _⟩
      obtain ⟨yn, rfl⟩ : ∃ yn : Nat, y = yn := ⟨y.toNat, by omega⟩
      obtain ⟨b, o, x, A1, n1, c1', rfl, hb, hx, hv1, hv2, hN, hcs⟩ := h.item (i := yn) (by omega)
      have hbz : bdZ l (yn : Int) = x := by rw [bdZ, Int.toNat_natCast, List.getD_eq_getElem?_getD, hx]; rfl
      have hx1000 := HLT.out x (List.mem_of_getElem? hx)
      have hyI : (yn : Int) < (n : Int) := by omega
      have hn1 : n1 ≤ 1000 := by rw [← hN.len]; exact hx1000
      have HN' := Lib.hid hN
      have HCS := Lib.hid hcs
      obtain ⟨p1, p2, p3⟩ := hcs wr hE
      obtain ⟨xb, xp, xl⟩ := x
      simp only at *
      have hlk1 := hS1.look hv1
      clear hx hcs hN hx1000 hv2
      cases hbb : fB l (win.take k) xb
      · rw [hbb] at hlk1
        obtain ⟨w3, hrun3, hS1', hG3⟩ := hS1.put hv1 (by unfold maxLen; omega)
        have hS2' : SetB w3 (w.heap.size + 1) m2 (fL l (win.take k)) := hS2.block (hG3.block _ hS2.lt (by simp))
        have hE3 : E w w3 := hE.grown hG3 (fun j hj => by injection hj with hj; omega)
        have hsz3 : w.heap.size + 2 ≤ w3.heap.size := Nat.le_trans hsz hG3.size
        have HSB := Lib.hid (show SetB w3 w.heap.size (m1 + 1) (fB l (win.take (k + 1))) by
          have : fB l (win.take (k + 1)) = fun y => y == xb || fB l (win.take k) y := by
            funext y
            rw [List.take_add_one, HY.out]
            show fB l (win.take k ++ [(yn : Int)]) y = _
            rw [fB_snoc, hbz]
          rw [this]; exact hS1')
        have HBB := Lib.hid hbb
        obtain ⟨q1, q2, q3⟩ := HCS.out w3 hE3
        have hset := set_c (xb, xp, xl) A1 n1 c1' w3 (HN'.out.e hE3)
        unfold bdV at hset
        have HSET := Lib.hid hset
        clear hbb hS1 hS1' hS2 hG3 hset
        go_wp2_with fail
        refine HSET.out.mono ?_
        rintro e w4 ⟨bo, mo, rfl, hbo, hmo, hSo, hE4⟩
        obtain ⟨own, hown⟩ : ∃ own : Int → Bool, (fun t => xl.contains t) = own := ⟨_, rfl⟩
        have HOWN := Lib.hid (show ∀ t, own t = xl.contains t from fun t => by rw [← hown])
        replace hSo : SetB w4 bo mo own := by rw [← hown]; exact hSo
        clear hown
        have hS24 := hS2'.e hE4
        have hSB4 := HSB.out.e hE4
        have hE34 := hE3.trans hE4
        have hsz4 := Nat.le_trans hsz3 hE4.le
        clear HSET HSB hE4 hS2' q1 q2 q3 p1 p2 p3 hlk1 hrun3 hE3
        go_wp2_with (first | (at_range; refine wpList_rangeB _ rfl _ rfl bo mo _ rfl hSo ?_; intro w5 cnt5 hR5 hG5 hz5 hc5) | fail)
        go_frame
        obtain ⟨r, hr⟩ : ∃ r, w4.heap.size = r := ⟨_, rfl⟩
        rw [hr] at hR5 ⊢
        have hrsz : w.heap.size + 2 ≤ r := by omega
        have hE45 : E w4 w5 := (E.refl w4).grown hG5 (fun j hj => by cases hj)
        have hS25 := hS24.e hE45
        have hSB5 := hSB4.e hE45
        have hE5 := hE34.trans hE45
        have hbo2 : w.heap.size + 2 ≤ bo := by omega
        clear hSo hG5 hz5 hc5 hE45 hS24 hSB4 hE34 hr hsz4 hsz3
        go_loopw [11] (fun _ wr => ∃ (left : Int → Bool) (cnt : Nat), RngB wr bo r mo own left cnt ∧ SetB wr (w.heap.size + 1) m2 (fL l (win.take k)) ∧ SetB wr w.heap.size (m1 + 1) (fB l (win.take (k + 1))) ∧ E w wr ∧ Hid (∀ t, own t = true → left t = false → fL l (win.take k) t = false)) (fun _ wr => wr.rangeLeft bo r)
        case atStart => exact ⟨_, cnt5, hR5, hS25, hSB5, hE5, fun t h1 h2 => by rw [h1] at h2; cases h2⟩
        case round =>
          obtain ⟨left, cnt, hrg, hSL, hSB, hEr, hdone⟩ := hrel
          clear hR5 hS25 hSB5 hE5
          go_wp2_with (first | (at_next; refine wpList_nextB _ rfl _ rfl bo r mo _ _ _ rfl hrg ?_ ?_) | fail)
          · intro hl0
            have HNO := Lib.hid (show ∀ t, own t = true → fL l (win.take k) t = false from fun t h1 => hdone.out t h1 (hl0 t))
            have hSo2 := hrg.set
            clear hdone hl0 hrg
            go_wp2_with (first | (at_range; refine wpList_rangeB _ rfl _ rfl bo mo _ rfl hSo2 ?_; intro w7 cnt7 hR7 hG7 hz7 hc7) | fail)
            go_frame
            obtain ⟨r2, hr2⟩ : ∃ r2, wr.heap.size = r2 := ⟨_, rfl⟩
            rw [hr2] at hR7 ⊢
            have hr2sz : w.heap.size + 2 ≤ r2 := by have := hSo2.lt; omega
            have hE77 : E wr w7 := (E.refl wr).grown hG7 (fun j hj => by cases hj)
            have hSL7 := hSL.e hE77
            have hSB7 := hSB.e hE77
            have hE7 := hEr.trans hE77
            clear hSo2 hG7 hz7 hE77 hSL hSB hEr hr2
            go_loopw [12] (fun _ wr => ∃ (left f : Int → Bool) (cnt m : Nat), RngB wr bo r2 mo own left cnt ∧ SetB wr (w.heap.size + 1) m f ∧ m + cnt ≤ m2 + mo ∧ SetB wr w.heap.size (m1 + 1) (fB l (win.take (k + 1))) ∧ E w wr ∧ Hid (∀ t, f t = (fL l (win.take k) t || (own t && !left t)))) (fun _ wr => wr.rangeLeft bo r2)
            case atStart => exact ⟨_, _, cnt7, m2, hR7, hSL7, by omega, hSB7, hE7, fun t => by cases own t <;> simp⟩
            case round =>
              obtain ⟨left, f, cnt, m, hrg, hSL, hmc, hSB, hEr, hf⟩ := hrel
              clear hR7 hSL7 hSB7 hE7
              go_wp2_with (first | (at_next; refine wpList_nextB _ rfl _ rfl bo r2 mo _ _ _ rfl hrg ?_ ?_) | fail)
              · intro hl0
                have HSL := Lib.hid (show SetB wr (w.heap.size + 1) m (fL l (win.take (k + 1))) by
                  have : f = fL l (win.take (k + 1)) := by
                    funext t
                    rw [hf.out t, hl0 t, List.take_add_one, HY.out]
                    show _ = fL l (win.take k ++ [(yn : Int)]) t
                    rw [fL_snoc, hbz, HOWN.out t, Bool.or_comm]
                    simp
                  rw [← this]; exact hSL)
                have HINV := Lib.hid (show lotsOk n yn (win.drop (k + 1)) = lotsOk n (-1) win ∧ ∀ i' k', i' < k + 1 → k' < i' → NC l win i' k' from
                  ⟨by rw [← HL.out]; simp; omega, fun i' k' hi' hk' => by
                    by_cases e : i' = k
                    · rw [e]; exact nc_of HY.out (by rw [hbz]; exact HBB.out) (fun t ht => by rw [hbz] at ht; exact HNO.out t (by rw [HOWN.out]; simpa using ht)) k' (by omega)
                    · exact hinv.out.2 i' k' (by omega) hk'⟩)
                have hszr : w.heap.size + 2 ≤ wr.heap.size := by have := hrg.lt; omega
                clear hl0 hf hSL hinv
                go_wp2_with fail
                exact ⟨⟨k + 1, m1 + 1, m, (yn : Int), by omega, by go_num, rfl, hSB, HSL.out, by omega, by omega, hEr, hszr, by omega, by omega, HINV.out⟩, by simp [intOf]; omega⟩
              · intro t cv w8 cnt8 hwt hlt8 hft hrg8 hcl hg8 hz8 hen
                have hSL8 : SetB w8 (w.heap.size + 1) m f := hSL.block (hg8.block _ hSL.lt (by simp; omega))
                have hSB8 : SetB w8 w.heap.size (m1 + 1) (fB l (win.take (k + 1))) := hSB.block (hg8.block _ hSB.lt (by simp; omega))
                have hE8 : E w w8 := hEr.grown hg8 (fun j hj => by injection hj with hj; omega)
                obtain ⟨w9, hrun9, hSL9, hG9⟩ := hSL8.put hwt (by unfold maxLen; omega)
                have hSB9 : SetB w9 w.heap.size (m1 + 1) (fB l (win.take (k + 1))) := hSB8.block (hG9.block _ hSB8.lt (by simp))
                have hE9 : E w w9 := hE8.grown hG9 (fun j hj => by injection hj with hj; omega)
                have hrg9 := hrg8.kept hG9 (by simp; omega) (by simp; omega)
                have HD := Lib.hid (show ∀ t', (t' == t || f t') = (fL l (win.take k) t' || (own t' && !(left t' && t' != t))) from fun t' => by
                  rw [hf.out t']
                  by_cases e : t' = t
                  · subst e; simp [hft]
                  · have e1 : (t' == t) = false := by simpa using e
                    have e2 : (t' != t) = true := by simpa using e
                    rw [e1, e2, Bool.and_true, Bool.false_or])
                have HM := Lib.hid (show w9.rangeLeft bo r2 < wr.rangeLeft bo r2 by rw [hrg9.left_eq, hrg.left_eq]; exact hcl)
                clear hf hrg hSL hSB hEr hSL8 hSB8 hE8 hG9 hrg8
                go_wp2_with fail
                exact ⟨⟨_, _, cnt8, m + 1, hrg9, hSL9, by omega, hSB9, hE9, HD.out⟩, HM.out⟩
          · intro t cv w6 cnt6 hwt hlt6 hft hrg6 hcl hg6 hz6 hen
            have hSL6 : SetB w6 (w.heap.size + 1) m2 (fL l (win.take k)) := hSL.block (hg6.block _ hSL.lt (by simp; omega))
            have hSB6 : SetB w6 w.heap.size (m1 + 1) (fB l (win.take (k + 1))) := hSB.block (hg6.block _ hSB.lt (by simp; omega))
            have hE6 : E w w6 := hEr.grown hg6 (fun j hj => by injection hj with hj; omega)
            have hlk := hSL6.look hwt
            cases hff : fL l (win.take k) t
            · rw [hff] at hlk
              have HD := Lib.hid (show ∀ t', own t' = true → (left t' && t' != t) = false → fL l (win.take k) t' = false from fun t' h1 h2 => by
                by_cases e : t' = t
                · rw [e]; exact hff
                · exact hdone.out t' h1 (by simpa [e] using h2))
              have HM := Lib.hid (show w6.rangeLeft bo r < wr.rangeLeft bo r by rw [hrg6.left_eq, hrg.left_eq]; exact hcl)
              clear hff hdone hrg hSL hSB hEr
              go_wp2_with fail
              exact ⟨⟨_, cnt6, hrg6, hSL6, hSB6, hE6, HD.out⟩, HM.out⟩
            · rw [hff] at hlk
              have HF := Lib.hid (show fin = false by rw [← HFIN.out, feasZ, fL_hit HY.out (by rw [hbz]; have := HOWN.out t; rw [hft] at this; simpa using this.symm) hff, Bool.and_false])
              clear hff hdone hrg hSL hSB hEr
              go_wp2_with fail
              go_ret
              exact ⟨ret_bool HF.out.symm, hE6⟩
      · rw [hbb] at hlk1
        have HF := Lib.hid (show fin = false by
          rw [← HFIN.out, feasZ, fB_hit HY.out (by rw [hbz]; exact hbb), Bool.and_false])
        clear hinv hbb
        go_wp2_with fail
        go_ret
        exact ⟨ret_bool HF.out.symm, hE⟩
    · have HF := Lib.hid (show fin = true by
        rw [← HFIN.out, feasZ, hl, apart_all (fun i' k' hi' hk' => hinv.out.2 i' k' (by omega) hk'), ← hinv.out.1, drop_end hl2 (by omega)]
        rfl)
      clear hinv
      go_wp2_with fail
      go_ret
      exact ⟨ret_bool HF.out.symm, hE⟩
end Go.Proofs.Ytpbkfpkgbfifaaa
