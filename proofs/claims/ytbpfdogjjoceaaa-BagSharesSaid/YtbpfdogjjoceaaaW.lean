/- Contracts of the reference's Proper, Zero, Of; Valid, Sorted; Same of amounts; Amounts of the reference. -/
import Derived.Test.YtbpfdogjjoceaaaEV
namespace Go.Proofs.Ytbpfdogjjoceaaa
open Go.RowKit

def okAmts (N : Int) (l : List (Int × Int)) : Bool := allProper N l && (decide (0 ≤ N) && decide (N ≤ 64))

set_option maxHeartbeats 1000000 in
theorem refProper_c (N : Int) (A : Option Addr) (n c : Nat) (l : List (Int × Int)) (w : World) (h : Pairs w A n c l) :
    Calls Try.prog 57 #[.int .i64 N, .slice A n c] w fun e w' => e = .returned (.bool (okAmts N l)) ∧ w = w' := by
  have hm := h.n63
  go_enter Try.func57, Try.ntmps57
  go_wp2
  go_loop [5] (fun i => ∃ k : Nat, k ≤ n ∧ i = .int .i64 k ∧ Hid (allProper N (l.drop k) = allProper N l)) (fun i => n - (intOf i).toNat)
  case atStart => exact ⟨0, Nat.zero_le _, rfl, rfl⟩
  case round =>
    obtain ⟨k, hk, rfl, hs⟩ := hrel
    by_cases hlt : k < n
    · obtain ⟨b, o, x, y, rfl, hb, hx, hwx, hwy, hc1, hc2⟩ := h.get hlt
      have HX := Lib.hid (proper_drop (N := N) hx)
      clear hx hwx hwy
      by_cases h1 : x < 0
      · have d1 : decide (x < 0) = true := by simpa using h1
        have HF := Lib.hid (show okAmts N l = false by rw [okAmts, ← hs.out, HX.out, show properB N x y = false by simp [properB]; omega]; simp)
        go_wp2
        go_ret
        exact ⟨ret_bool HF.out.symm, rfl⟩
      · have d1 : decide (x < 0) = false := by simpa using h1
        by_cases h2 : N ≤ x
        · have d2 : decide (N ≤ x) = true := by simpa using h2
          have HF := Lib.hid (show okAmts N l = false by rw [okAmts, ← hs.out, HX.out, show properB N x y = false by simp [properB]; omega]; simp)
          go_wp2
          go_ret
          exact ⟨ret_bool HF.out.symm, rfl⟩
        · have d2 : decide (N ≤ x) = false := by simpa using h2
          by_cases h3 : y < 1
          · have d3 : decide (y < 1) = true := by simpa using h3
            have HF := Lib.hid (show okAmts N l = false by rw [okAmts, ← hs.out, HX.out, show properB N x y = false by simp [properB]; omega]; simp)
            go_wp2
            go_ret
            exact ⟨ret_bool HF.out.symm, rfl⟩
          · have d3 : decide (y < 1) = false := by simpa using h3
            by_cases h4 : 1099511627776 < y
            · have HF := Lib.hid (show okAmts N l = false by rw [okAmts, ← hs.out, HX.out, show properB N x y = false by simp [properB]; omega]; simp)
              go_wp2
              go_ret
              exact ⟨ret_bool HF.out.symm, rfl⟩
            · have HP := Lib.hid (show properB N x y = true by simp [properB]; omega)
              go_wp2
              go_round
              case rel => exact ⟨k + 1, by omega, by go_num, show _ = _ by rw [← hs.out, HX.out, HP.out]; rfl⟩
              case measure => simp [intOf]; omega
    · have HF := Lib.hid (show okAmts N l = (decide (0 ≤ N) && decide (N ≤ 64)) by rw [okAmts, ← hs.out, drop_end h.len (by omega)]; rfl)
      by_cases h1 : 0 ≤ N
      · have d1 : decide (0 ≤ N) = true := by simpa using h1
        go_wp2
        go_ret
        exact ⟨ret_bool (by rw [HF.out, d1]; rfl), rfl⟩
      · have d1 : decide (0 ≤ N) = false := by simpa using h1
        go_wp2
        go_ret
        exact ⟨ret_bool (by rw [HF.out, d1]; rfl), rfl⟩

set_option maxHeartbeats 1000000 in
theorem zero_c (n : Nat) (w : World) (hn : n ≤ 64) :
    Calls Try.prog 44 #[.int .i64 n] w (RetOwn .i64 3 w (List.replicate n 0)) := by
  go_enter Try.func44, Try.ntmps44
  go_wp2
  go_loopw [3, 4] (fun t i wr => ∃ (k c' : Nat) (A' : Option Addr), k ≤ n ∧ i = .int .i64 k ∧ t = .slice A' k c' ∧ Own .i64 3 wr w.heap.size A' k c' (List.replicate k 0) ∧ E w wr) (fun _ i _ => n - (intOf i).toNat)
  case atStart => exact ⟨0, 0, none, Nat.zero_le _, rfl, rfl, Own.nil _ _ _ _, E.refl _⟩
  case round =>
    obtain ⟨k, c', A', hk, rfl, rfl, hown, hE⟩ := hrel
    have hle := hE.le
    by_cases hlt : k < n
    · go_wp2_with (at_builtin; refine wpList_app1n intT _ rfl _ _ rfl _ _ _ _ _ rfl hown _ rfl (wf_of_i64 (by omega) (by omega)) (by omega) hle ?_; intro g' c2 w1 hO hG hB hor)
      go_roundw
      case rel => exact ⟨k + 1, c2, _, by omega, by go_num, rfl, hO.cast (by rw [← List.replicate_succ']), hE.up hB⟩
      case measure => simp [intOf]; omega
    · have HN := Lib.hid (show k = n by omega)
      go_wp2
      go_ret
      exact RetOwn.mk_ (by rw [HN.out]) hown hE

theorem ofS_no {N : Int} {l : List (Int × Int)} (h : okAmts N l = false) : ofS N l = ([], 1) := by
  rw [ofS, if_neg]
  rintro ⟨h1, h2, h3⟩
  simp [okAmts, h1, h2, h3] at h
theorem ofS_yes {N : Int} {l : List (Int × Int)} (h : okAmts N l = true) : 0 ≤ N ∧ N ≤ 64 ∧ allProper N l = true ∧ ofS N l = ofF (List.replicate N.toNat 0) l := by
  simp only [okAmts, Bool.and_eq_true, decide_eq_true_eq] at h
  exact ⟨h.2.1, h.2.2, h.1, by rw [ofS, if_pos ⟨h.2.1, h.2.2, h.1⟩]⟩

set_option maxHeartbeats 2000000 in
set_option maxRecDepth 100000 in
theorem refOf_c (N : Int) (A : Option Addr) (n c : Nat) (l : List (Int × Int)) (w : World) (h : Pairs w A n c l) :
    Calls Try.prog 25 #[.int .i64 N, .slice A n c] w (RetOwnErr .i64 3 w (ofS N l)) := by
  have hm := h.n63
  cases hok : okAmts N l
  · have HT := Lib.hid (ofS_no hok)
    go_enter Try.func25, Try.ntmps25
    go_wp2_with (go_at_call 57; refine (refProper_c _ _ _ _ _ _ h).mono ?_; rintro e w' ⟨rfl, rfl⟩)
    go_ret2
    exact RetOwnErr.mk_ HT.out (Own.nil _ _ _ _) (E.refl _)
  · obtain ⟨hN0, hN1, hall, hT⟩ := ofS_yes hok
    obtain ⟨M, rfl⟩ : ∃ M : Nat, N = M := ⟨N.toNat, by omega⟩
    have hM : M ≤ 64 := by omega
    have HT := Lib.hid hT
    have HP := Lib.hid hall
    clear hT hall
    go_enter Try.func25, Try.ntmps25
    go_wp2_with (first
      | (go_at_call 57; refine (refProper_c _ _ _ _ _ _ h).mono ?_; rintro e w' ⟨rfl, rfl⟩)
      | (go_at_call 44; refine (zero_c M _ hM).mono ?_; rintro e w1 ⟨A1, n1, c1, rfl, hO1, hE1⟩))
    have hn1 : n1 = M := by rw [← hO1.1]; simp
    subst hn1
    go_loopw [8] (fun i wr => ∃ (k : Nat) (out : List Int), k ≤ n ∧ i = .int .i64 k ∧ Own .i64 3 wr w.heap.size A1 n1 c1 out ∧ Hid (okAll out) ∧ E w wr ∧ Hid (ofF out (l.drop k) = ofS n1 l)) (fun i _ => n - (intOf i).toNat)
    case atStart => exact ⟨0, _, Nat.zero_le _, rfl, hO1, okAll_rep _, hE1, show _ = _ by rw [HT.out]; simp⟩
    case round =>
      obtain ⟨k, out, hk, rfl, hO, hoka, hE, hs⟩ := hrel
      have hle := hE.le
      by_cases hlt : k < n
      · obtain ⟨b, o, x, y, rfl, hb, hx, hwx, hwy, hc1, hc2⟩ := h.get hlt
        obtain ⟨x0, x1, y0, y1⟩ := proper_get HP.out hx
        obtain ⟨j, rfl⟩ : ∃ j : Nat, x = j := ⟨x.toNat, by omega⟩
        have hj : j < n1 := by omega
        obtain ⟨g, v, rfl, hbg, hg2, hv, _, hcv, hfr⟩ := hO.get hj
        obtain ⟨v0, v1⟩ := okAll_get hoka.out hv
        replace hc1 := (hE.cell (p := ⟨b, _, none⟩) hb).trans hc1
        replace hc2 := (hE.cell (p := ⟨b, _, none⟩) hb).trans hc2
        have hne : b ≠ g := by omega
        have HX := Lib.hid hx
        have HV := Lib.hid (show out[(j : Int).toNat]? = some v by simpa using hv)
        have hc1' : (wr.setCell ⟨g, j, none⟩ (.int .i64 (v + y))).cell? ⟨b, o + k * 2, none⟩ = some (.int .i64 j) := by
          rw [World.cell?_setCell_other _ _ _ _ (fun e => hne (by injection e with e1; exact e1.symm))]; exact hc1
        clear hx hwx hwy hv
        by_cases ho : 1099511627776 < v + y
        · go_wp2
          go_region
          go_wp2
          go_ret2
          exact RetOwnErr.mk_ (by rw [← hs.out, ofF_over HX.out HV.out ho]) (Own.nil _ _ _ _) ((hE.setCell (p := ⟨g, j, none⟩) hbg _).drew)
        · go_wp2
          go_region
          go_wp2
          go_roundw
          case rel =>
            refine ⟨k + 1, out.set (j : Int).toNat (v + y), by omega, by go_num, ?_, okAll_set hoka.out (by omega) (by omega), (hE.setCell (p := ⟨g, j, none⟩) hbg _).drew, show _ = _ by rw [← hs.out, ofF_step HX.out HV.out (by omega)]⟩
            rw [Int.toNat_natCast]; exact (hO.set j _ (wf_of_i64 (by omega) (by omega))).e (E.refl _).drew
          case measure => simp [intOf]; omega
      · have HF := Lib.hid (show ofS n1 l = (out, 0) by rw [← hs.out, drop_end h.len (by omega)]; rfl)
        go_wp2
        go_ret2
        exact RetOwnErr.mk_ HF.out hO hE

/-- sorted, without repetitions, and proper; last: the item before -/
def validF (N : Int) : Int → List (Int × Int) → Bool
  | _, [] => true
  | last, (x, y) :: l => properB N x y && (decide (last < x) && validF N x l)
def validS (N : Int) (l : List (Int × Int)) : Bool := (decide (0 ≤ N) && decide (N ≤ 64)) && validF N (-1) l
theorem validF_step {N last : Int} {l : List (Int × Int)} {k : Nat} {x y : Int} (h : l[k]? = some (x, y)) : validF N last (l.drop k) = (properB N x y && (decide (last < x) && validF N x (l.drop (k + 1)))) := by rw [drop_at h]; rfl

set_option maxHeartbeats 1000000 in
theorem valid_c (N : Int) (A : Option Addr) (n c : Nat) (l : List (Int × Int)) (w : World) (h : Pairs w A n c l) :
    Calls Try.prog 26 #[.int .i64 N, .slice A n c] w (RetB w (validS N l)) := by
  have hm := h.n63
  by_cases hN : N < 0
  · have HT := Lib.hid (show validS N l = false by simp [validS]; omega)
    go_enter Try.func26, Try.ntmps26
    go_wp2
    go_ret
    exact RetB.mk_ HT.out (E.refl _)
  have hd1 : decide (N < 0) = false := by simpa using hN
  by_cases hN2 : 64 < N
  · have HT := Lib.hid (show validS N l = false by simp [validS]; omega)
    go_enter Try.func26, Try.ntmps26
    go_wp2
    go_ret
    exact RetB.mk_ HT.out (E.refl _)
  have hd2 : decide (64 < N) = false := by simpa using hN2
  have HT := Lib.hid (show validS N l = validF N (-1) l by simp [validS]; omega)
  go_enter Try.func26, Try.ntmps26
  go_wp2
  go_loopw [5, 16] (fun t i wr => ∃ (k : Nat) (last : Int), k ≤ n ∧ i = .int .i64 k ∧ t = .int .i64 last ∧ E w wr ∧ Hid (validF N last (l.drop k) = validS N l)) (fun _ i _ => n - (intOf i).toNat)
  case atStart => exact ⟨0, -1, Nat.zero_le _, rfl, rfl, E.refl _, HT.out.symm⟩
  case round =>
    obtain ⟨k, last, hk, rfl, rfl, hE, hs⟩ := hrel
    by_cases hlt : k < n
    · obtain ⟨b, o, x, y, rfl, hb, hx, hwx, hwy, hc1, hc2⟩ := (h.e hE).get hlt
      have HX := Lib.hid (validF_step (N := N) (last := last) hx)
      clear hx hwx hwy
      have hEa := hE.alloc (.cells #[.int .i64 x, .int .i64 y] 67)
      cases hp : properB N x y
      · have HF := Lib.hid (show validS N l = false by rw [← hs.out, HX.out, hp]; rfl)
        go_wp2_with (go_at_call 56; refine (proper_c _ _ _ _).mono ?_; rintro e w' ⟨rfl, hE2⟩)
        go_ret
        exact RetB.mk_ HF.out (hEa.trans hE2)
      · by_cases hl : last < x
        · have HF := Lib.hid (show validF N x (l.drop (k + 1)) = validS N l by rw [← hs.out, HX.out, hp]; simp [hl])
          have hd : decide (x ≤ last) = false := by simpa using hl
          go_wp2_with (go_at_call 56; refine (proper_c _ _ _ _).mono ?_; rintro e w' ⟨rfl, hE2⟩; have hcx := (hE2.cell (p := ⟨wr.heap.size, 0, none⟩) (by simp)).trans (cell_of_row _ wr.heap.size 0 _ _ _ (heap_alloc_new wr _)); simp only [List.getElem?_toArray, List.getElem?_cons_zero] at hcx)
          go_roundw
          case rel => exact ⟨k + 1, x, by omega, by go_num, rfl, hEa.trans hE2, HF.out⟩
          case measure => simp [intOf]; omega
        · have HF := Lib.hid (show validS N l = false by rw [← hs.out, HX.out, hp]; simp [hl])
          have hd : decide (x ≤ last) = true := by simp; omega
          go_wp2_with (go_at_call 56; refine (proper_c _ _ _ _).mono ?_; rintro e w' ⟨rfl, hE2⟩; have hcx := (hE2.cell (p := ⟨wr.heap.size, 0, none⟩) (by simp)).trans (cell_of_row _ wr.heap.size 0 _ _ _ (heap_alloc_new wr _)); simp only [List.getElem?_toArray, List.getElem?_cons_zero] at hcx)
          go_ret
          exact RetB.mk_ HF.out (hEa.trans hE2)
    · have HF := Lib.hid (show validS N l = true by rw [← hs.out, drop_end h.len (by omega)]; rfl)
      go_wp2
      go_ret
      exact RetB.mk_ HF.out hE
end Go.Proofs.Ytbpfdogjjoceaaa
