/- Sorted of the reference; Same of amounts; Amounts of the reference. -/
import Derived.Test.YtbpfdogjjoceaaaW
namespace Go.Proofs.Ytbpfdogjjoceaaa
open Go.RowKit

def incF : Int → List (Int × Int) → Bool
  | _, [] => true
  | last, (x, _) :: l => decide (last < x) && incF x l
def incAt (l : List (Int × Int)) (m : Nat) : Bool := match l[m]? with | some (x, _) => incF x (l.drop (m + 1)) | none => true
theorem incAt_step {l : List (Int × Int)} {m : Nat} {x y x' y' : Int} (h1 : l[m]? = some (x, y)) (h2 : l[m + 1]? = some (x', y')) : incAt l m = (decide (x < x') && incAt l (m + 1)) := by
  simp only [incAt, h1, h2]
  rw [drop_at h2]; rfl
theorem incAt_end {l : List (Int × Int)} {m n : Nat} (hl : l.length = n) (h : n ≤ m + 1) : incAt l m = true := by
  unfold incAt
  split
  · rw [drop_end hl h]; rfl
  · rfl
theorem validF_inc (N : Int) : ∀ (l : List (Int × Int)) (last : Int), validF N last l = (allProper N l && incF last l)
  | [], _ => rfl
  | (x, y) :: l, last => by
    show (properB N x y && (decide (last < x) && validF N x l)) = ((properB N x y && allProper N l) && (decide (last < x) && incF x l))
    rw [validF_inc N l x]
    cases properB N x y <;> cases allProper N l <;> cases decide (last < x) <;> cases incF x l <;> rfl
theorem valid_sorted (N : Int) (l : List (Int × Int)) : (okAmts N l && incAt l 0) = validS N l := by
  rw [okAmts, validS, validF_inc]
  cases l with
  | nil => simp [incAt, incF, allProper]
  | cons p l =>
    obtain ⟨x, y⟩ := p
    have e : incAt ((x, y) :: l) 0 = incF x l := rfl
    rw [e]
    show _ = (_ && (_ && (decide (-1 < x) && incF x l)))
    cases hp : allProper N ((x, y) :: l)
    · simp
    · have : decide (-1 < x) = true := by
        have := proper_get (k := 0) hp rfl
        simp; omega
      rw [this]
      cases decide (0 ≤ N) && decide (N ≤ 64) <;> cases incF x l <;> rfl

set_option maxHeartbeats 2000000 in
set_option maxRecDepth 100000 in
theorem sorted_c (N : Int) (A : Option Addr) (n c : Nat) (l : List (Int × Int)) (w : World) (h : Pairs w A n c l) :
    Calls Try.prog 27 #[.int .i64 N, .slice A n c] w fun e w' => e = .returned (.bool (validS N l)) ∧ ∃ m, w' = w.drewN m := by
  have hm := h.n63
  go_enter Try.func27, Try.ntmps27
  go_wp2_with (go_at_call 57; refine (refProper_c _ _ _ _ _ _ h).mono ?_; rintro e w' ⟨rfl, rfl⟩)
  go_loopw [5, 6] (fun t i wr => ∃ (m : Nat) (ok : Bool), m ≤ n ∧ i = .int .i64 ((m : Int) + 1) ∧ t = .bool ok ∧ Q w wr ∧ Hid ((ok && incAt l m) = validS N l)) (fun _ i _ => (n + 1) - (intOf i).toNat)
  case atStart => exact ⟨0, okAmts N l, Nat.zero_le _, by simp, rfl, Q.refl _, valid_sorted N l⟩
  case round =>
    obtain ⟨m, ok, hmn, rfl, rfl, hq, hs⟩ := hrel
    by_cases hlt : (m : Int) + 1 < (n : Int)
    · obtain ⟨b, o, x, y, rfl, hb, hx, hwx, hwy, hc1, _⟩ := (h.q hq).get (i := m) (by omega)
      obtain ⟨b', o', x', y', hA, hb', hx', hwx', hwy', hc1', _⟩ := (h.q hq).get (i := m + 1) (by omega)
      injection hA with hA; injection hA with e1 e2; subst e1 e2
      have HX := Lib.hid (incAt_step hx hx')
      clear hx hx' hwx hwy hwx' hwy'
      cases ok
      · go_wp2
        go_quiet (fail)
        go_wp2
        go_roundw
        case rel => exact ⟨m + 1, false, by omega, by go_num, rfl, hq.drewN _, show _ = _ by rw [← hs.out]; rfl⟩
        case measure => simp [intOf]; omega
      · by_cases hxx : x < x'
        · have hd : decide (x < x') = true := by simpa using hxx
          go_wp2
          go_quiet (fail)
          go_wp2
          go_roundw
          case rel => exact ⟨m + 1, true, by omega, by go_num, rfl, hq.drewN _, show _ = _ by rw [← hs.out, HX.out, hd]; rfl⟩
          case measure => simp [intOf]; omega
        · have hd : decide (x < x') = false := by simpa using hxx
          go_wp2
          go_quiet (fail)
          go_wp2
          go_roundw
          case rel => exact ⟨m + 1, false, by omega, by go_num, rfl, hq.drewN _, show _ = _ by rw [← hs.out, HX.out, hd]; rfl⟩
          case measure => simp [intOf]; omega
    · have HF := Lib.hid (show ok = validS N l by rw [← hs.out, incAt_end h.len (by omega), Bool.and_true])
      go_wp2
      go_ret
      exact ⟨ret_bool HF.out, hq⟩

def samePB (a b : List (Int × Int)) : Bool := decide (a = b)
set_option maxHeartbeats 1000000 in
theorem sameP_c (A1 A2 : Option Addr) (n1 c1 n2 c2 : Nat) (l1 l2 : List (Int × Int)) (w : World) (h1 : Pairs w A1 n1 c1 l1) (h2 : Pairs w A2 n2 c2 l2) :
    Calls Try.prog 29 #[.slice A1 n1 c1, .slice A2 n2 c2] w fun e w' => e = .returned (.bool (samePB l1 l2)) ∧ ∃ m, w' = w.drewN m := by
  have m1 := h1.n63
  have m2 := h2.n63
  by_cases hn : n1 = n2
  · subst hn
    go_enter Try.func29, Try.ntmps29
    go_wp2
    go_loopw [5] (fun i wr => ∃ k : Nat, k ≤ n1 ∧ i = .int .i64 k ∧ Q w wr ∧ Hid (samePB (l1.drop k) (l2.drop k) = samePB l1 l2)) (fun i _ => n1 - (intOf i).toNat)
    case atStart => exact ⟨0, Nat.zero_le _, rfl, Q.refl _, rfl⟩
    case round =>
      obtain ⟨k, hk, rfl, hq, hs⟩ := hrel
      by_cases hlt : k < n1
      · obtain ⟨b1, o1, x, y, rfl, hb1, hx, hwx, hwy, hc1, hd1⟩ := (h1.q hq).get hlt
        obtain ⟨b2, o2, x', y', rfl, hb2, hx', hwx', hwy', hc2, hd2⟩ := (h2.q hq).get hlt
        have HX := Lib.hid (drop_at hx)
        have HY := Lib.hid (drop_at hx')
        clear hx hx' hwx hwx' hwy hwy'
        by_cases he : x = x' ∧ y = y'
        · obtain ⟨e1, e2⟩ := he
          have hdd : (x == x') = true := by simp [e1]
          have hde : (y == y') = true := by simp [e2]
          have HE1 := Lib.hid e1
          have HE2 := Lib.hid e2
          clear e1 e2
          go_wp2
          go_quiet (fail)
          go_wp2
          go_roundw
          case rel => exact ⟨k + 1, by omega, by go_num, hq.drewN _, show _ = _ by rw [← hs.out, HX.out, HY.out, HE1.out, HE2.out]; simp [samePB]⟩
          case measure => simp [intOf]; omega
        · by_cases e1 : x = x'
          · have hdd : (x == x') = true := by simp [e1]
            have hde : (y == y') = false := by simp; exact fun e2 => he ⟨e1, e2⟩
            have HE := Lib.hid he
            clear he e1
            go_wp2
            go_quiet (fail)
            go_wp2
            go_ret
            exact ⟨ret_bool (by rw [← hs.out, HX.out, HY.out]; simp only [samePB, List.cons.injEq, Prod.mk.injEq]; simp [HE.out]), hq.drewN _⟩
          · have hdd : (x == x') = false := by simpa using e1
            have HE := Lib.hid he
            clear he e1
            go_wp2
            go_quiet (fail)
            go_wp2
            go_ret
            exact ⟨ret_bool (by rw [← hs.out, HX.out, HY.out]; simp only [samePB, List.cons.injEq, Prod.mk.injEq]; simp [HE.out]), hq.drewN _⟩
      · have HF := Lib.hid (show samePB l1 l2 = true by rw [← hs.out, drop_end h1.len (by omega), drop_end h2.len (by omega)]; rfl)
        go_wp2
        go_ret
        exact ⟨ret_bool HF.out.symm, hq⟩
  · have hb := neI_t hn
    have HF := Lib.hid (show samePB l1 l2 = false by
      have := h1.len; have := h2.len; simp only [samePB, decide_eq_false_iff_not]; rintro rfl; omega)
    go_enter Try.func29, Try.ntmps29
    go_wp2
    go_ret
    exact ⟨ret_bool HF.out.symm, Q.refl _⟩

set_option maxHeartbeats 1000000 in
theorem refAmounts_c (A : Option Addr) (n c : Nat) (l : List Int) (w : World) (h : Nums .i64 w A n c l) :
    Calls Try.prog 30 #[.slice A n c] w (RetOwnP 67 w (amountsS l)) := by
  have hm := h.n63
  cases hbag : isBagB l
  · have HT := Lib.hid (show amountsS l = [] by simp [amountsS, hbag])
    go_enter Try.func30, Try.ntmps30
    go_wp2_with (go_at_call 31; refine (refIs_c _ _ _ _ _ h).mono ?_; rintro e w' ⟨rfl, rfl⟩)
    refine wp_loop_rounds 1 ?_; rw [rounds_succ]
    by_cases h0 : (0 : Int) < (n : Int)
    · have hd : decide ((0 : Int) < (n : Int)) = true := by simpa using h0
      go_wp2
      go_ret
      exact RetOwnP.mk_ HT.out (OwnP.nil _ _ _) (E.refl _)
    · have hd : decide ((0 : Int) < (n : Int)) = false := by simpa using h0
      go_wp2
      go_ret
      exact RetOwnP.mk_ HT.out (OwnP.nil _ _ _) (E.refl _)
  · have HT := Lib.hid (show amountsS l = amF 0 l by simp [amountsS, hbag])
    have HB := Lib.hid hbag
    have hn64 : n ≤ 64 := by have := isBag_len hbag; rw [h.len] at this; exact this
    go_enter Try.func30, Try.ntmps30
    go_wp2_with (go_at_call 31; refine (refIs_c _ _ _ _ _ h).mono ?_; rintro e w' ⟨rfl, rfl⟩)
    go_loopw [3, 5] (fun t i wr => ∃ (k m c' : Nat) (A' : Option Addr) (out : List (Int × Int)), k ≤ n ∧ m ≤ k ∧ i = .int .i64 k ∧ t = .slice A' m c' ∧ OwnP 67 wr w.heap.size A' m c' out ∧ E w wr ∧ Hid (out ++ amF k (l.drop k) = amountsS l)) (fun _ i _ => n - (intOf i).toNat)
    case atStart => exact ⟨0, 0, 0, none, [], Nat.zero_le _, Nat.zero_le _, rfl, rfl, OwnP.nil _ _ _, E.refl _, HT.out.symm⟩
    case round =>
      obtain ⟨k, m, c', A', out, hk, hmk, rfl, rfl, hown, hE, hs⟩ := hrel
      have hle := hE.le
      by_cases hlt : k < n
      · obtain ⟨b, o, x, rfl, hb, hx, hwx, hc⟩ := (h.e hE).get hlt
        obtain ⟨x0, x1⟩ := isBag_get HB.out hx
        have HX := Lib.hid hx
        clear hx hwx
        have hltI : decide ((k : Int) < (n : Int)) = true := by simpa using hlt
        by_cases hz : 0 < x
        · go_wp2_with (at_builtin; refine wpList_appP amtT _ rfl _ _ rfl _ _ _ _ _ rfl hown _ _ rfl (wf_of_i64 (by omega) (by omega)) (wf_of_i64 (by omega) (by omega)) (by omega) hle ?_; intro g' c2 w1 hO hG hB hor)
          go_roundw
          case rel => exact ⟨k + 1, m + 1, c2, _, _, by omega, by omega, by go_num, rfl, hO, hE.up hB, show _ = _ by rw [← hs.out, amF_yes HX.out hz]; simp⟩
          case measure => simp [intOf]; omega
        · go_wp2
          go_roundw
          case rel => exact ⟨k + 1, m, c', A', out, by omega, by omega, by go_num, rfl, hown, hE, show _ = _ by rw [← hs.out, amF_no HX.out (by omega)]⟩
          case measure => simp [intOf]; omega
      · have hltI : decide ((k : Int) < (n : Int)) = false := by simpa using hlt
        have HF := Lib.hid (show amountsS l = out by rw [← hs.out, drop_end h.len (by omega)]; simp [amF])
        go_wp2
        go_ret
        exact RetOwnP.mk_ HF.out hown hE
end Go.Proofs.Ytbpfdogjjoceaaa
