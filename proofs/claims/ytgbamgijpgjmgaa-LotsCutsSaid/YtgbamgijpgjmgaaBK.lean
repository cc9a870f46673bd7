/- Lemmas of the claim, joined: WF WH WC WG. No condition. -/
import Derived.Test.YtgbamgijpgjmgaaBJ
import Derived.Test.YtgbamgijpgjmgaaBI
import Derived.Lib.AppendZerosOnto
/- The model's Set, Union, Without, Minus, Meet, Within. -/
namespace Go.Proofs.Ytgbamgijpgjmgaa
open Go.RowKit

theorem setS_take {l : List Lt} {k : Nat} {x : Lt} (hl : ∀ y ∈ l, possB y = true) (h : l[k]? = some x) : insM (setS (l.take k)) x = setS (l.take (k + 1)) := by
  have h1 : ∀ y ∈ l.take k, possB y = true := fun y hy => hl y (List.mem_of_mem_take hy)
  have hx := hl x (List.mem_of_getElem? h)
  have e : l.take (k + 1) = l.take k ++ [x] := by rw [List.take_add_one, h]; rfl
  rw [e]
  exact insM_set (setP _ h1).1 (possB_iff.1 hx).2.2.2.1 fun u => by rw [mem_setS, U_app, U_one, List.mem_append]
theorem setS_take2 {a l : List Lt} {k : Nat} {x : Lt} (ha : ∀ y ∈ a, possB y = true) (hl : ∀ y ∈ l, possB y = true) (h : l[k]? = some x) : insM (setS (a ++ l.take k)) x = setS (a ++ l.take (k + 1)) := by
  have h1 : ∀ y ∈ a ++ l.take k, possB y = true := fun y hy => by
    rcases List.mem_append.1 hy with hy | hy
    · exact ha y hy
    · exact hl y (List.mem_of_mem_take hy)
  have hx := hl x (List.mem_of_getElem? h)
  have e : a ++ l.take (k + 1) = a ++ l.take k ++ [x] := by rw [List.take_add_one, h, List.append_assoc]; rfl
  rw [e]
  exact insM_set (setP _ h1).1 (possB_iff.1 hx).2.2.2.1 fun u => by rw [mem_setS, U_app _ [x], U_one, List.mem_append]
set_option maxHeartbeats 4000000 in
set_option maxRecDepth 100000 in
theorem refSet_c (A : Option Addr) (n c : Nat) (l : List Lt) (w : World) (h : LotsAt w A n c l) : Calls Try.prog 35 #[.slice A n c] w (RetL w (lset l)) := by
  have HV := Lib.hid (refValid_c A n c l w h)
  have hm63 := h.n63
  have hlen := h.len
  cases hv : validB l
  · rw [hv] at HV
    have HF := Lib.hid (show lset l = [] by rw [lset, hv]; rfl)
    have hn0 : 0 < n := by
      rcases Nat.eq_zero_or_pos n with h0 | h0
      · subst h0
        obtain rfl := List.eq_nil_of_length_eq_zero hlen
        simp [validB] at hv
      · exact h0
    have hnI : (0 : Int) < (n : Int) := by omega
    clear hv hlen
    go_enter Try.func35, Try.ntmps35
    go_wp2_with fail
    refine HV.out.mono ?_
    rintro e w2 ⟨rfl, hE2⟩
    go_wp2_with fail
    go_loopw [3, 5] (fun t0 ti wr => ti = .int .i64 (0 : Nat) ∧ t0 = .slice none 0 0 ∧ E w wr) (fun _ _ _ => 0)
    case atStart => exact ⟨rfl, rfl, hE2⟩
    case round =>
      obtain ⟨rfl, rfl, hE⟩ := hrel
      go_wp2_with fail
      go_ret
      exact RetL.mk_ HF.out (OwnL.nil _ _) hE
  · rw [hv] at HV
    obtain ⟨v1, v2⟩ := validB_iff.1 hv
    have hn : n ≤ 4096 := by omega
    have HF := Lib.hid (show lset l = setS (l.take n) by rw [lset, hv, List.take_of_length_le (by omega)]; rfl)
    have HP := Lib.hid v2
    have HT := Lib.hid (fun k => setP (l.take k) (fun y hy => v2 y (List.mem_of_mem_take hy)))
    have HS := Lib.hid (fun k x (hx : l[k]? = some x) => setS_take v2 hx)
    clear hv v1 v2 hlen
    go_enter Try.func35, Try.ntmps35
    go_wp2_with fail
    refine HV.out.mono ?_
    rintro e w2 ⟨rfl, hE2⟩
    go_wp2_with fail
    go_loopw [3, 5] (fun t0 ti wr => ∃ (k n1 c1 : Nat) (A1 : Option Addr), k ≤ n ∧ ti = .int .i64 k ∧ t0 = .slice A1 n1 c1 ∧ OwnL wr w.heap.size A1 n1 c1 (setS (l.take k)) ∧ E w wr) (fun _ ti _ => n - (intOf ti).toNat)
    case atStart => exact ⟨0, 0, 0, none, Nat.zero_le _, rfl, rfl, OwnL.nil _ _, hE2⟩
    case round =>
      obtain ⟨k, n1, c1, A1, hk, rfl, rfl, hO, hE⟩ := hrel
      by_cases hlt : k < n
      · obtain ⟨b, o, x, rfl, hb, hx, hwx, d0, d1, d2⟩ := (h.e hE).get hlt
        have hkI : (k : Int) < (n : Int) := by omega
        have hT := HT.out k
        have hn1 : n1 ≤ 1000000 := by have := hO.1; have := hT.2.1; have : (l.take k).length ≤ k := List.length_take_le _ _; omega
        have HC := Lib.hid (fun W (hW : E wr W) => refInsert_c x A1 n1 c1 (setS (l.take k)) W (hO.reads.e hW) hT.2.2.1 (HP.out x (List.mem_of_getElem? hx)) hwx hn1)
        rw [HS.out k x hx] at HC
        obtain ⟨f, a, m⟩ := x
        simp only at d0 d1 d2
        unfold ltV at HC
        clear hx hT hO
        go_wp2_with fail
        refine (HC.out _ (E.refl _)).mono ?_
        rintro e w3 ⟨A3, n3, c3, rfl, hO3, hE3⟩
        have hle := hE.le
        go_wp2_with fail
        go_roundw
        case rel => exact ⟨k + 1, n3, c3, A3, by omega, by go_num, rfl, hO3.rebase hle, hE.trans hE3⟩
        case measure => simp [intOf]; omega
      · have hkn : k = n := by omega
        subst hkn
        go_wp2_with fail
        go_ret
        exact RetL.mk_ HF.out hO hE
set_option maxHeartbeats 4000000 in
set_option maxRecDepth 100000 in
theorem refUnion_c (A : Option Addr) (n c : Nat) (l : List Lt) (A' : Option Addr) (n' c' : Nat) (l' : List Lt) (w : World) (h : LotsAt w A n c l) (h' : LotsAt w A' n' c' l') :
    Calls Try.prog 36 #[.slice A n c, .slice A' n' c'] w (RetL w (lunion l l')) := by
  have HV := Lib.hid (refValid_c A n c l w h)
  have HV2 := Lib.hid (fun W (hE : E w W) => refValid_c A' n' c' l' W (h'.e hE))
  have hm63 := h'.n63
  cases hv : validB l
  · rw [hv] at HV
    have HF := Lib.hid (show lunion l l' = [] by rw [lunion, hv]; rfl)
    clear hv
    go_enter Try.func36, Try.ntmps36
    go_wp2_with fail
    refine HV.out.mono ?_
    rintro e w2 ⟨rfl, hE2⟩
    go_wp2_with fail
    refine (HV2.out _ hE2).mono ?_
    rintro e w3 ⟨rfl, hE3⟩
    go_wp2_with fail
    go_ret
    exact RetL.mk_ HF.out (OwnL.nil _ _) (hE2.trans hE3)
  · rw [hv] at HV
    cases hv2 : validB l'
    · rw [hv2] at HV2
      have HF := Lib.hid (show lunion l l' = [] by rw [lunion, hv, hv2]; rfl)
      clear hv hv2
      go_enter Try.func36, Try.ntmps36
      go_wp2_with fail
      refine HV.out.mono ?_
      rintro e w2 ⟨rfl, hE2⟩
      go_wp2_with fail
      refine (HV2.out _ hE2).mono ?_
      rintro e w3 ⟨rfl, hE3⟩
      go_wp2_with fail
      go_ret
      exact RetL.mk_ HF.out (OwnL.nil _ _) (hE2.trans hE3)
    · rw [hv2] at HV2
      obtain ⟨v1, v2⟩ := validB_iff.1 hv
      obtain ⟨u1, u2⟩ := validB_iff.1 hv2
      have hl1 := h.len
      have hl2 := h'.len
      have hn : n ≤ 4096 := by omega
      have hn' : n' ≤ 4096 := by omega
      have HF := Lib.hid (show lunion l l' = setS (l ++ l'.take n') by rw [lunion, hv, hv2, List.take_of_length_le (l := l') (by omega)]; rfl)
      have HP := Lib.hid u2
      have HT := Lib.hid (fun k => setP (l ++ l'.take k) (fun y hy => by
        rcases List.mem_append.1 hy with hy | hy
        · exact v2 y hy
        · exact u2 y (List.mem_of_mem_take hy)))
      have HS := Lib.hid (fun k x (hx : l'[k]? = some x) => setS_take2 v2 u2 hx)
      have HC1 := Lib.hid (fun W (hE : E w W) => refSet_c A n c l W (h.e hE))
      have hls : lset l = setS (l ++ l'.take 0) := by rw [lset, hv, List.take_zero, List.append_nil]; rfl
      rw [hls] at HC1
      have HL := Lib.hid (And.intro hl1 hl2)
      clear hv hv2 v1 v2 u1 u2 hl1 hl2 hls
      go_enter Try.func36, Try.ntmps36
      go_wp2_with fail
      refine HV.out.mono ?_
      rintro e w2 ⟨rfl, hE2⟩
      go_wp2_with fail
      refine (HV2.out _ hE2).mono ?_
      rintro e w3 ⟨rfl, hE3⟩
      have hE23 := hE2.trans hE3
      have hle3 := hE23.le
      go_wp2_with fail
      refine (HC1.out _ hE23).mono ?_
      rintro e w4 ⟨A4, n4, c4, rfl, hO4, hE4⟩
      go_wp2_with fail
      go_loopw [7, 8] (fun t0 ti wr => ∃ (k n1 c1 : Nat) (A1 : Option Addr), k ≤ n' ∧ ti = .int .i64 k ∧ t0 = .slice A1 n1 c1 ∧ OwnL wr w.heap.size A1 n1 c1 (setS (l ++ l'.take k)) ∧ E w wr) (fun _ ti _ => n' - (intOf ti).toNat)
      case atStart => exact ⟨0, n4, c4, A4, Nat.zero_le _, rfl, rfl, hO4.rebase hle3, hE23.trans hE4⟩
      case round =>
        clear hO4
        obtain ⟨k, n1, c1, A1, hk, rfl, rfl, hO, hE⟩ := hrel
        by_cases hlt : k < n'
        · obtain ⟨b, o, x, rfl, hb, hx, hwx, d0, d1, d2⟩ := (h'.e hE).get hlt
          have hkI : (k : Int) < (n' : Int) := by omega
          have hT := HT.out k
          have hn1 : n1 ≤ 1000000 := by have := hO.1; have := hT.2.1; have h0 : (l'.take k).length ≤ k := List.length_take_le _ _; rw [List.length_append] at this; have := HL.out.1; omega
          have HC := Lib.hid (fun W (hW : E wr W) => refInsert_c x A1 n1 c1 (setS (l ++ l'.take k)) W (hO.reads.e hW) hT.2.2.1 (HP.out x (List.mem_of_getElem? hx)) hwx hn1)
          rw [HS.out k x hx] at HC
          obtain ⟨f, a, m⟩ := x
          simp only at d0 d1 d2
          unfold ltV at HC
          clear hx hT hO
          go_wp2_with fail
          refine (HC.out _ (E.refl _)).mono ?_
          rintro e w5 ⟨A3, n3, c3, rfl, hO3, hE3⟩
          have hle := hE.le
          go_wp2_with fail
          go_roundw
          case rel => exact ⟨k + 1, n3, c3, A3, by omega, by go_num, rfl, hO3.rebase hle, hE.trans hE3⟩
          case measure => simp [intOf]; omega
        · have hkn : k = n' := by omega
          subst hkn
          go_wp2_with fail
          go_ret
          exact RetL.mk_ HF.out hO hE

theorem subA_take {y : Lt} {set : List Lt} {k : Nat} {x : Lt} (h : set[k]? = some x) : subM (subA y (set.take k)) x = subA y (set.take (k + 1)) := by rw [List.take_add_one, h]; exact (subA_snoc y x _).symm
theorem wouM_take {s set : List Lt} {k : Nat} {y : Lt} (h : s[k]? = some y) : putL (wouM (s.take k) set) (subA y set) = wouM (s.take (k + 1)) set := by rw [List.take_add_one, h]; exact (wouM_snoc _ set y).symm
theorem putL_take {s r : List Lt} {k : Nat} {y : Lt} (h : r[k]? = some y) : addL (putL s (r.take k)) y = putL s (r.take (k + 1)) := by rw [List.take_add_one, h]; exact (putL_snoc s _ y).symm
theorem lwithout_wou {s set : List Lt} (h1 : validB s = true) (h2 : validB set = true) : lwithout s set = wouM s set := by rw [lwithout, h1, h2, (wouM_facts s set (validB_iff.1 h1).2 (validB_iff.1 h2).2).1]; rfl
set_option maxHeartbeats 8000000 in
set_option maxRecDepth 100000 in
theorem refWithout_c (A : Option Addr) (n c : Nat) (s : List Lt) (A' : Option Addr) (n' c' : Nat) (set : List Lt) (w : World) (h : LotsAt w A n c s) (h' : LotsAt w A' n' c' set) (hnn : n * (n' + 1) ≤ 100000) :
    Calls Try.prog 40 #[.slice A n c, .slice A' n' c'] w (RetL w (lwithout s set)) := by
  have HV := Lib.hid (refValid_c A n c s w h)
  have HV2 := Lib.hid (fun W (hE : E w W) => refValid_c A' n' c' set W (h'.e hE))
  have hm63 := h.n63
  have hm63' := h'.n63
  cases hv : validB s
  · rw [hv] at HV
    have HF := Lib.hid (show lwithout s set = [] by rw [lwithout, hv]; rfl)
    clear hv
    go_enter Try.func40, Try.ntmps40
    go_wp2_with fail
    refine HV.out.mono ?_
    rintro e w2 ⟨rfl, hE2⟩
    go_wp2_with fail
    refine (HV2.out _ hE2).mono ?_
    rintro e w3 ⟨rfl, hE3⟩
    go_wp2_with fail
    go_ret
    exact RetL.mk_ HF.out (OwnL.nil _ _) (hE2.trans hE3)
  · rw [hv] at HV
    cases hv2 : validB set
    · rw [hv2] at HV2
      have HF := Lib.hid (show lwithout s set = [] by rw [lwithout, hv, hv2]; rfl)
      clear hv hv2
      go_enter Try.func40, Try.ntmps40
      go_wp2_with fail
      refine HV.out.mono ?_
      rintro e w2 ⟨rfl, hE2⟩
      go_wp2_with fail
      refine (HV2.out _ hE2).mono ?_
      rintro e w3 ⟨rfl, hE3⟩
      go_wp2_with fail
      go_ret
      exact RetL.mk_ HF.out (OwnL.nil _ _) (hE2.trans hE3)
    · rw [hv2] at HV2
      obtain ⟨v1, v2⟩ := validB_iff.1 hv
      obtain ⟨u1, u2⟩ := validB_iff.1 hv2
      have hl1 := h.len
      have hl2 := h'.len
      have hn : n ≤ 4096 := by omega
      have hn' : n' ≤ 4096 := by omega
      have HF := Lib.hid (show lwithout s set = wouM (s.take n) set by rw [lwithout_wou hv hv2, List.take_of_length_le (by omega)])
      have HP := Lib.hid (And.intro v2 u2)
      have HW := Lib.hid (fun k => wouM_facts (s.take k) set (fun y hy => v2 y (List.mem_of_mem_take hy)) u2)
      have HA := Lib.hid (fun y (hy : possB y = true) k => subA_facts hy (set.take k) (fun x hx => u2 x (List.mem_of_mem_take hx)))
      have HSa := Lib.hid (fun y k x (hx : set[k]? = some x) => subA_take (y := y) hx)
      have HSw := Lib.hid (fun k y (hy : s[k]? = some y) => wouM_take (set := set) hy)
      have HL := Lib.hid (And.intro hl1 hl2)
      have HNN := Lib.hid hnn
      have HTk := Lib.hid (show set.take n' = set from List.take_of_length_le (by omega))
      clear hv hv2 v1 v2 u1 u2 hl1 hl2 hnn
      go_enter Try.func40, Try.ntmps40
      go_wp2_with fail
      refine HV.out.mono ?_
      rintro e w2 ⟨rfl, hE2⟩
      go_wp2_with fail
      refine (HV2.out _ hE2).mono ?_
      rintro e w3 ⟨rfl, hE3⟩
      have hE23 := hE2.trans hE3
      clear hE2 hE3
      go_wp2_with fail
      go_loopw [7, 8] (fun t0 ti wr => ∃ (k n1 c1 : Nat) (A1 : Option Addr), k ≤ n ∧ ti = .int .i64 k ∧ t0 = .slice A1 n1 c1 ∧ OwnL wr w.heap.size A1 n1 c1 (wouM (s.take k) set) ∧ E w wr) (fun _ ti _ => n - (intOf ti).toNat)
      case atStart => exact ⟨0, 0, 0, none, Nat.zero_le _, rfl, rfl, OwnL.nil _ _, hE23⟩
      case round =>
        clear hE23
        obtain ⟨k, n1, c1, A1, hk, rfl, rfl, hO, hE⟩ := hrel
        by_cases hlt : k < n
        · obtain ⟨b, o, y, rfl, hb, hy, hwy, d0, d1, d2⟩ := (h.e hE).get hlt
          have hkI : (k : Int) < (n : Int) := by omega
          have hpy := HP.out.1 y (List.mem_of_getElem? hy)
          have hWk := HW.out k
          have hOl := hO.1
          have hkl : (s.take k).length ≤ k := List.length_take_le _ _
          have hnk : k * (n' + 1) + (n' + 1) ≤ 100000 := by
            have h1 : (k + 1) * (n' + 1) ≤ n * (n' + 1) := Nat.mul_le_mul_right _ (by omega)
            rw [Nat.add_mul, Nat.one_mul] at h1
            have := HNN.out
            omega
          have hn1 : n1 ≤ k * (n' + 1) := by
            have h1 := hWk.2.2
            have h2 : (s.take k).length * (set.length + 1) ≤ k * (n' + 1) := by rw [HL.out.2]; exact Nat.mul_le_mul_right _ hkl
            omega
          have HB := Lib.hid (And.intro hn1 hnk)
          have HWp := Lib.hid hWk.2.1
          have HY := Lib.hid (HSw.out k y hy)
          have HPy := Lib.hid (HA.out y hpy)
          have HSy := Lib.hid (HSa.out y)
          clear hy hpy hWk hOl hkl hnk hn1
          obtain ⟨w5, hw5⟩ : ∃ w5, w5 = wr := ⟨_, rfl⟩
          subst hw5
          have hLn := lot_new (w := w5) hwy
          have hE5 : E w5 (w5.alloc (.cells #[.int .i64 y.1, .int .i64 y.2.1, .int .i64 y.2.2] 39)) := (E.refl _).alloc _
          have hO5 := hO.e hE5
          obtain ⟨yf, ya, yn⟩ := y
          simp only at d0 d1 d2 hE5 hLn hO5
          clear hO
          go_upto_region 10 with fail
          obtain ⟨w6, hw6⟩ : ∃ w6, w5.alloc (.cells #[.int .i64 yf, .int .i64 ya, .int .i64 yn] 39) = w6 := ⟨_, rfl⟩
          rw [hw6] at hE5 hLn hO5 ⊢
          clear hw6
          have hE6 := hE.trans hE5
          go_wp2_with fail
          go_loopw [9, 10] (fun tr tk wr => ∃ (j n2 c2 : Nat) (A2 : Option Addr), j ≤ n' ∧ tk = .int .i64 j ∧ tr = .slice A2 n2 c2 ∧ LotsAt wr A2 n2 c2 (subA (yf, ya, yn) (set.take j)) ∧ E w6 wr) (fun _ tk _ => n' - (intOf tk).toNat)
          case atStart => exact ⟨0, 1, 1, _, Nat.zero_le _, rfl, rfl, hLn, E.refl _⟩
          case round =>
            obtain ⟨j, n2, c2, A2, hj, rfl, rfl, hR, hEr⟩ := hrel
            by_cases hlt2 : j < n'
            · obtain ⟨b2, o2, x, rfl, hb2, hx, hwx, g0, g1, g2⟩ := (h'.e (hE6.trans hEr)).get hlt2
              have hjI : (j : Int) < (n' : Int) := by omega
              have hP := HPy.out j
              have hn2 : n2 ≤ 100000 := by have := hR.len; have := hP.2.2; have : (set.take j).length ≤ j := List.length_take_le _ _; omega
              have HC := Lib.hid (fun W (hW : E wr W) => refSubtract_c x A2 n2 c2 (subA (yf, ya, yn) (set.take j)) W (hR.e hW) hP.2.1 (HP.out.2 x (List.mem_of_getElem? hx)) hwx hn2)
              rw [HSy.out j x hx] at HC
              obtain ⟨xf, xa, xn⟩ := x
              simp only at g0 g1 g2
              unfold ltV at HC
              clear hx hP hR
              go_wp2_with fail
              refine (HC.out _ (E.refl _)).mono ?_
              rintro e w7 ⟨A3, n3, c3, rfl, hO3, hE3⟩
              go_wp2_with fail
              go_roundw
              case rel => exact ⟨j + 1, n3, c3, A3, by omega, by go_num, rfl, hO3.reads, hEr.trans hE3⟩
              case measure => simp [intOf]; omega
            · have hjn : j = n' := by omega
              subst hjn
              have hP := HPy.out j
              rw [HTk.out] at hP hR
              have hR63 := hR.n63
              have hRl := hR.len
              have hn2 : n2 ≤ j + 1 := by have := hP.2.2; have := HL.out.2; omega
              have HRn := Lib.hid hn2
              have HRl := Lib.hid hRl
              have HPp := Lib.hid hP.2.1
              have HRTk := Lib.hid (fun i z (hz : (subA (yf, ya, yn) set)[i]? = some z) => putL_take (s := wouM (s.take k) set) hz)
              have HRP := Lib.hid (fun i => putL_poss (s := wouM (s.take k) set) (l := (subA (yf, ya, yn) set).take i) HWp.out (fun z hz => hP.2.1 z (List.mem_of_mem_take hz)))
              have HRL := Lib.hid (fun i => putL_len ((subA (yf, ya, yn) set).take i) (wouM (s.take k) set))
              have HYE : putL (wouM (s.take k) set) ((subA (yf, ya, yn) set).take n2) = wouM (s.take (k + 1)) set := by rw [List.take_of_length_le (l := subA (yf, ya, yn) set) (by omega)]; exact HY.out
              have HYE := Lib.hid HYE
              have HWl := Lib.hid hO5.1
              have hle6 : w.heap.size ≤ w6.heap.size := hE6.le
              have hOr := hO5.e hEr
              have hEwr := hE6.trans hEr
              generalize subA (yf, ya, yn) set = rs at *
              generalize wouM (s.take k) set = ws at *
              clear hP hn2 hRl
              obtain ⟨w7, hw7⟩ : ∃ w7, w7 = wr := ⟨_, rfl⟩
              subst hw7
              go_wp2_with fail
              go_loopw [7, 11] (fun t0 tk wr => ∃ (i n3 c3 : Nat) (A3 : Option Addr), i ≤ n2 ∧ tk = .int .i64 i ∧ t0 = .slice A3 n3 c3 ∧ OwnL wr w.heap.size A3 n3 c3 (putL ws (rs.take i)) ∧ E w7 wr) (fun _ tk _ => n2 - (intOf tk).toNat)
              case atStart => exact ⟨0, n1, c1, A1, Nat.zero_le _, rfl, rfl, hOr, E.refl _⟩
              case round =>
                clear hOr hO5
                obtain ⟨i, n3, c3, A3, hi, rfl, rfl, hO3, hEi⟩ := hrel
                by_cases hlt3 : i < n2
                · obtain ⟨b3, o3, z, rfl, hb3, hz, hwz, f0, f1, f2⟩ := (hR.e hEi).get hlt3
                  have hiI : (i : Int) < (n2 : Int) := by omega
                  have hn3 : n3 ≤ 1000000 := by
                    have h1 := hO3.1
                    have h2 := HRL.out i
                    have h3 : (rs.take i).length ≤ i := List.length_take_le _ _
                    have h4 := HWl.out
                    have h5 := HB.out
                    have h6 := HRn.out
                    omega
                  have hpz := HPp.out z (List.mem_of_getElem? hz)
                  have HC := Lib.hid (fun W (hW : E wr W) => refAdd_c z A3 n3 c3 (putL ws (rs.take i)) W (hO3.reads.e hW) (HRP.out i) (fun _ => hpz) hwz hn3)
                  rw [HRTk.out i z hz] at HC
                  obtain ⟨zf, za, zn⟩ := z
                  simp only at f0 f1 f2
                  unfold ltV at HC
                  clear hz hpz hO3
                  have hle := (hEwr.trans hEi).le
                  go_wp2_with fail
                  refine (HC.out _ (E.refl _)).mono ?_
                  rintro e w8 ⟨A4, n4, c4, rfl, hO4, hE4⟩
                  go_wp2_with fail
                  go_roundw
                  case rel => exact ⟨i + 1, n4, c4, A4, by omega, by go_num, rfl, hO4.rebase hle, hEi.trans hE4⟩
                  case measure => simp [intOf]; omega
                · have hin : i = n2 := by omega
                  subst hin
                  rw [HYE.out] at hO3
                  have hEf := hEwr.trans hEi
                  go_wp2_with fail
                  go_roundw
                  case rel => exact ⟨k + 1, n3, c3, A3, by omega, by go_num, rfl, hO3, hEf⟩
                  case measure => simp [intOf]; omega
        · have hkn : k = n := by omega
          subst hkn
          go_wp2_with fail
          go_ret
          exact RetL.mk_ HF.out hO hE
end Go.Proofs.Ytgbamgijpgjmgaa
/- The model's Minus, Meet, Within. -/
namespace Go.Proofs.Ytgbamgijpgjmgaa
open Go.RowKit

theorem lset_valid {a : List Lt} (h : validB a = true) : validB (setS a) = true := by
  obtain ⟨v1, v2⟩ := validB_iff.1 h
  obtain ⟨h1, h2, h3, h4⟩ := setP a v2
  exact validB_iff.2 ⟨by omega, h3⟩
theorem lwithout_lset (a b : List Lt) : lwithout (lset a) b = lminus a b := by
  unfold lwithout lminus lset
  cases hv : validB a
  · have : validB [] = true := rfl
    simp only [Bool.false_and, Bool.false_eq_true, if_false, this, Bool.true_and, U_nil]
    have : glue (outU b []) = [] := rfl
    rw [this]
    simp
  · simp only [if_true, lset_valid hv]
theorem lset_len (a : List Lt) : (lset a).length ≤ a.length := by
  unfold lset
  cases hv : validB a
  · simp
  · simp only [if_true]
    exact (setP a (validB_iff.1 hv).2).2.1
theorem lminus_facts {a b : List Lt} (ha : validB a = true) (hb : validB b = true) : lminus a b = glue (outU b (U (setS a))) ∧ (∀ x ∈ lminus a b, possB x = true) ∧ (lminus a b).length ≤ a.length * (b.length + 1) := by
  obtain ⟨h1, h2, h3, h4⟩ := setP a (validB_iff.1 ha).2
  have e : lminus a b = glue (outU b (U (setS a))) := by rw [lminus, ha, hb]; rfl
  obtain ⟨m1, m2⟩ := minus_len h3 (validB_iff.1 hb).2
  rw [e]
  exact ⟨rfl, m1, Nat.le_trans m2 (Nat.mul_le_mul_right _ h2)⟩
theorem lmeet_minus {a b : List Lt} (hb : validB b = true) (hl : a.length * (b.length + 1) ≤ 4096) : lminus a (lminus a b) = lmeet a b := by
  cases ha : validB a
  · rw [lminus, ha, lmeet, ha]; rfl
  · obtain ⟨e, m1, m2⟩ := lminus_facts ha hb
    have hv : validB (lminus a b) = true := validB_iff.2 ⟨by omega, m1⟩
    rw [lminus, ha, hv, lmeet, ha, hb, e]
    simp only [Bool.and_self, if_true]
    exact meet_model (setS a) b

set_option maxHeartbeats 4000000 in
set_option maxRecDepth 100000 in
theorem refMinus_c (A : Option Addr) (n c : Nat) (l : List Lt) (A' : Option Addr) (n' c' : Nat) (l' : List Lt) (w : World) (h : LotsAt w A n c l) (h' : LotsAt w A' n' c' l') (hnn : n * (n' + 1) ≤ 100000) :
    Calls Try.prog 37 #[.slice A n c, .slice A' n' c'] w (RetL w (lminus l l')) := by
  have HS := Lib.hid (refSet_c A n c l w h)
  have HF := Lib.hid (lwithout_lset l l')
  have HL := Lib.hid (lset_len l)
  have HN := Lib.hid hnn
  have HLen := Lib.hid h.len
  clear hnn
  generalize lset l = ls at *
  go_enter Try.func37, Try.ntmps37
  go_wp2_with fail
  refine HS.out.mono ?_
  rintro e w2 ⟨A2, n2, c2, rfl, hO2, hE2⟩
  have hn2 : n2 ≤ n := by have := hO2.1; have := HL.out; have := HLen.out; omega
  have HW := Lib.hid (refWithout_c A2 n2 c2 ls A' n' c' l' w2 hO2.reads (h'.e hE2) (Nat.le_trans (Nat.mul_le_mul_right _ hn2) HN.out))
  have hle := hE2.le
  clear hn2
  go_wp2_with fail
  refine HW.out.mono ?_
  rintro e w3 ⟨A3, n3, c3, rfl, hO3, hE3⟩
  go_wp2_with fail
  go_ret
  exact RetL.mk_ HF.out.symm (hO3.rebase hle) (hE2.trans hE3)
set_option maxHeartbeats 4000000 in
set_option maxRecDepth 100000 in
theorem refMeet_c (A : Option Addr) (n c : Nat) (l : List Lt) (A' : Option Addr) (n' c' : Nat) (l' : List Lt) (w : World) (h : LotsAt w A n c l) (h' : LotsAt w A' n' c' l') (hn : n ≤ 12) (hn' : n' ≤ 12) :
    Calls Try.prog 38 #[.slice A n c, .slice A' n' c'] w (RetL w (lmeet l l')) := by
  have HV := Lib.hid (refValid_c A' n' c' l' w h')
  cases hv : validB l'
  · rw [hv] at HV
    have HF := Lib.hid (show lmeet l l' = [] by rw [lmeet, hv, Bool.and_false]; rfl)
    clear hv
    go_enter Try.func38, Try.ntmps38
    go_wp2_with fail
    refine HV.out.mono ?_
    rintro e w2 ⟨rfl, hE2⟩
    go_wp2_with fail
    go_ret
    exact RetL.mk_ HF.out (OwnL.nil _ _) hE2
  · rw [hv] at HV
    have hl1 := h.len
    have hl2 := h'.len
    have hmul : n * (n' + 1) ≤ 156 := Nat.le_trans (Nat.mul_le_mul hn (show n' + 1 ≤ 13 by omega)) (by omega)
    have HF := Lib.hid (lmeet_minus (a := l) hv (by rw [hl1, hl2]; omega))
    have HM := Lib.hid (fun W (hE : E w W) => refMinus_c A n c l A' n' c' l' W (h.e hE) (h'.e hE) (by omega))
    have HML : (lminus l l').length ≤ 156 := by
      cases ha : validB l
      · have : lminus l l' = [] := by rw [lminus, ha]; rfl
        rw [this]; simp
      · have := (lminus_facts ha hv).2.2
        rw [hl1, hl2] at this
        omega
    have HML := Lib.hid HML
    have HN := Lib.hid hn
    generalize lminus l l' = m0 at *
    clear hv hl1 hl2 hmul hn hn'
    go_enter Try.func38, Try.ntmps38
    go_wp2_with fail
    refine HV.out.mono ?_
    rintro e w2 ⟨rfl, hE2⟩
    go_wp2_with fail
    refine (HM.out _ hE2).mono ?_
    rintro e w3 ⟨A3, n3, c3, rfl, hO3, hE3⟩
    have hE23 := hE2.trans hE3
    have hn3 : n3 ≤ 156 := by have := hO3.1; have := HML.out; omega
    have HM2 := Lib.hid (refMinus_c A n c l A3 n3 c3 m0 w3 (h.e hE23) hO3.reads (Nat.le_trans (Nat.mul_le_mul HN.out (show n3 + 1 ≤ 157 by omega)) (by omega)))
    have hle := hE23.le
    clear hn3
    go_wp2_with fail
    refine HM2.out.mono ?_
    rintro e w4 ⟨A4, n4, c4, rfl, hO4, hE4⟩
    go_wp2_with fail
    go_ret
    exact RetL.mk_ HF.out.symm (hO4.rebase hle) (hE23.trans hE4)
set_option maxHeartbeats 4000000 in
set_option maxRecDepth 100000 in
theorem refWithin_c (A : Option Addr) (n c : Nat) (l : List Lt) (A' : Option Addr) (n' c' : Nat) (l' : List Lt) (w : World) (h : LotsAt w A n c l) (h' : LotsAt w A' n' c' l') (hnn : n * (n' + 1) ≤ 100000) :
    Calls Try.prog 39 #[.slice A n c, .slice A' n' c'] w (RetK w (lwithin l l')) := by
  have HV := Lib.hid (refValid_c A n c l w h)
  have HV2 := Lib.hid (fun W (hE : E w W) => refValid_c A' n' c' l' W (h'.e hE))
  cases hv : validB l
  · rw [hv] at HV
    have HF := Lib.hid (show lwithin l l' = false by rw [lwithin, hv]; rfl)
    clear hv
    go_enter Try.func39, Try.ntmps39
    go_wp2_with fail
    refine HV.out.mono ?_
    rintro e w2 ⟨rfl, hE2⟩
    go_wp2_with fail
    refine (HV2.out _ hE2).mono ?_
    rintro e w3 ⟨rfl, hE3⟩
    go_wp2_with fail
    go_ret
    exact ⟨ret_bool HF.out.symm, hE2.trans hE3⟩
  · rw [hv] at HV
    cases hv2 : validB l'
    · rw [hv2] at HV2
      have HF := Lib.hid (show lwithin l l' = false by rw [lwithin, hv, hv2]; rfl)
      clear hv hv2
      go_enter Try.func39, Try.ntmps39
      go_wp2_with fail
      refine HV.out.mono ?_
      rintro e w2 ⟨rfl, hE2⟩
      go_wp2_with fail
      refine (HV2.out _ hE2).mono ?_
      rintro e w3 ⟨rfl, hE3⟩
      go_wp2_with fail
      go_ret
      exact ⟨ret_bool HF.out.symm, hE2.trans hE3⟩
    · rw [hv2] at HV2
      have HF := Lib.hid (show lwithin l l' = decide (lminus l l' = []) by rw [within_model, hv, hv2]; rfl)
      have HM := Lib.hid (fun W (hE : E w W) => refMinus_c A n c l A' n' c' l' W (h.e hE) (h'.e hE) hnn)
      generalize lminus l l' = m0 at *
      clear hv hv2 hnn
      go_enter Try.func39, Try.ntmps39
      go_wp2_with fail
      refine HV.out.mono ?_
      rintro e w2 ⟨rfl, hE2⟩
      go_wp2_with fail
      refine (HV2.out _ hE2).mono ?_
      rintro e w3 ⟨rfl, hE3⟩
      have hE23 := hE2.trans hE3
      go_wp2_with fail
      refine (HM.out _ hE23).mono ?_
      rintro e w4 ⟨A4, n4, c4, rfl, hO4, hE4⟩
      have hl4 := hO4.1
      have hm4 := hO4.reads.n63
      by_cases hz : n4 = 0
      · subst hz
        have hm0 : m0 = [] := List.eq_nil_of_length_eq_zero hl4
        have HF2 := Lib.hid (show lwithin l l' = true by rw [HF.out, hm0]; rfl)
        clear hl4 hm0
        go_wp2_with fail
        go_ret
        exact ⟨ret_bool HF2.out.symm, hE23.trans hE4⟩
      · have HF2 := Lib.hid (show lwithin l l' = false by
          rw [HF.out, decide_eq_false_iff_not]
          intro hm
          rw [hm] at hl4
          exact hz hl4.symm)
        have hzI : ((n4 : Int) == 0) = false := by simpa using hz
        clear hl4
        go_wp2_with fail
        go_ret
        exact ⟨ret_bool (by rw [HF2.out]), hE23.trans hE4⟩
end Go.Proofs.Ytgbamgijpgjmgaa
/- spans.Within. -/
namespace Go.Proofs.Ytgbamgijpgjmgaa
open Go.RowKit Go.Shelf
attribute [local go_sem] Oper.semAt_some

theorem results_cell1 {fn : Func} {t : Tmp} {T : TypeId} (h : fn.results = #[.cell t T]) {tmps : Array Value} {P : Program} {w : World} {b1 : Nat} {v1 : Value} (h1 : tmps.getD t undef = .pointer (some ⟨b1, 0, none⟩))
    (g1 : (loadVar T ⟨b1, 0, none⟩).run P w = .ok v1 w) : (results fn tmps).run P w = .ok v1 w := by
  have h1' : tmps[t]?.getD undef = .pointer (some ⟨b1, 0, none⟩) := by simpa using h1
  simp [results, h, h1', g1, asAddr]
theorem loadVar_bool {w : World} {b : Nat} {x : Bool} (h : w.cell? ⟨b, 0, none⟩ = some (.bool x)) : (loadVar 4 ⟨b, 0, none⟩).run Try.prog w = .ok (.bool x) w := by
  simp [loadVar, Try.isAgg4, go_sem, h]
/-- the loop's record, the deferred calls, the result's cell -/
def JW (L D R : Nat) (r : Loop) (_ : List (Lt × Bool)) (X : Nat → Prop) (W : World) : Prop :=
  W.heap[L]? = some (.loop r) ∧ W.heap[D]? = some (.deferred (some [])) ∧ W.heap[R]? = some (.cells #[.bool false] 4 (0, 0)) ∧ X = fun i => i = L ∨ i = D ∨ i = R
theorem within_all {s l : List Lt} {us : List Un} {ps : List (Lt × Bool)} (h : Parts s us ps) (hu : us = U l) (hp : ∀ p ∈ ps, p.2 = true) : (U l).all (hasB s) = true := by
  have h1 : outU s (U l) = [] := by
    rw [← hu, ← h.out]
    have : sel false ps = [] := by
      unfold sel
      rw [List.map_eq_nil_iff, List.filter_eq_nil_iff]
      intro p hp'
      simp [hp p hp']
    rw [this]; rfl
  rw [List.all_eq_true]
  intro u hu
  have : ¬ u ∈ outU s (U l) := by rw [h1]; simp
  rw [mem_outU] at this
  rcases Classical.em (u ∈ U s) with h2 | h2
  · exact hasB_iff.2 h2
  · exact absurd ⟨hu, h2⟩ this
theorem within_not {s l : List Lt} {us : List Un} {ps : List (Lt × Bool)} (h : Parts s us ps) (hu : ∀ u ∈ us, u ∈ U l) (hp : ∃ p ∈ ps, p.2 = false) : (U l).all (hasB s) = false := by
  obtain ⟨p, hp1, hp2⟩ := hp
  have hpos := h.pos p hp1
  have hm : (p.1.1, p.1.2.1) ∈ U (sel false ps) := by
    refine mem_U.2 ⟨p.1, ?_, mem_ul.2 ⟨rfl, by simp only; omega, by simp only; omega⟩⟩
    unfold sel
    refine List.mem_map.2 ⟨p, List.mem_filter.2 ⟨hp1, by simp [hp2]⟩, rfl⟩
  rw [h.out, mem_outU] at hm
  rw [Bool.eq_false_iff, ne_eq, List.all_eq_true]
  intro hall
  exact hm.2 (hasB_iff.1 (hall _ (hu _ hm.1)))
set_option maxHeartbeats 8000000 in
set_option maxRecDepth 100000 in
theorem spWithin_c (w : World) (A : Option Addr) (n c : Nat) (l : List Lt) (As : Option Addr) (ns cs : Nat) (s : List Lt) (hA : LotsAt w A n c l) (hS : LotsAt w As ns cs s) (hp : ∀ x ∈ l, possB x = true) (hps : ∀ x ∈ s, possB x = true) (hcan : Canon s) (hcnt : n * (2 * ns + 1) ≤ 300000) (hns : ns ≤ 100000) :
    Calls Try.prog 64 #[.slice A n c, .slice As ns cs] w (RetK w ((U l).all (hasB s))) := by
  have HAN := Lib.hid (And.intro hA.obl hS.obl)
  have HP := Lib.hid (And.intro hp hps)
  have HCan := Lib.hid hcan
  have HCnt := Lib.hid hcnt
  have HT := Lib.hid (fun us ps h hu hp => within_all (s := s) (l := l) (us := us) (ps := ps) h hu hp)
  have HFa := Lib.hid (fun us ps h hu hp => within_not (s := s) (l := l) (us := us) (ps := ps) h hu hp)
  clear hp hps hcan hcnt
  generalize (U l).all (hasB s) = rr at *
  refine (callsIn_wide (n := 3)).1 ?_
  refine callsIn_of_wp_marks Try.func64 rfl trivial ?_ rfl
  simp only [Try.ntmps64, List.size_toArray, List.length_cons, List.length_nil, Nat.reduceAdd, Nat.reduceSub, Array.replicate_succ, Array.replicate_zero, List.push_toArray, List.append_toArray, List.nil_append, List.cons_append]
  gi_wp2_with (refine ⟨trivial, ?_⟩; gi_at_call 84; refine (callsIn_wide.2 (spPieces_c A n c As ns cs _)).mono ?_; rintro e w' ⟨rfl, rfl⟩)
  obtain ⟨w2, hw2⟩ : ∃ w2, (((w.alloc (.cells #[.bool false] 4)).alloc (.cells #[.slice A n c] 22)).alloc (.cells #[.slice As ns cs] 22)) = w2 := ⟨_, rfl⟩
  have hEw : E w w2 := by rw [← hw2]; exact (((E.refl w).alloc _).alloc _).alloc _
  have hz2 : w2.heap.size = w.heap.size + 3 := by rw [← hw2]; simp
  have hbt : w2.heap[w.heap.size]? = some (.cells #[.bool false] 4 (0, 0)) := by
    rw [← hw2, Below.heap_alloc _ _ _ (by simp only [World.size_alloc]; omega), Below.heap_alloc _ _ _ (by simp)]; exact heap_alloc_new _ _
  have hba : w2.heap[w.heap.size + 1]? = some (.cells #[.slice A n c] 22 (0, 0)) := by
    rw [← hw2, Below.heap_alloc _ _ _ (by simp)]
    have := heap_alloc_new (w.alloc (.cells #[.bool false] 4)) (.cells #[.slice A n c] 22)
    rw [World.size_alloc] at this; exact this
  have hbc : w2.heap[w.heap.size + 1 + 1]? = some (.cells #[.slice As ns cs] 22 (0, 0)) := by
    rw [← hw2]
    have := heap_alloc_new ((w.alloc (.cells #[.bool false] 4)).alloc (.cells #[.slice A n c] 22)) (.cells #[.slice As ns cs] 22)
    rw [World.size_alloc, World.size_alloc] at this; exact this
  rw [hw2]
  clear hw2
  refine wpIn_wide.2 (wp_rangeX (gf := 103) (lb := #[ptr (w.heap.size + 1), ptr (w.heap.size + 1 + 1)]) rfl Try.call103
    (Post := fun W' => W'.heap[w.heap.size]? = some (.cells #[.bool false] 4 (0, 0)) ∧ W'.heap[w2.heap.size]? = some (.deferred (some [])) ∧ Hid (true = rr) ∧ Ex (fun _ => False) w W')
    (PostX := fun W' => W'.heap[w.heap.size]? = some (.cells #[.bool false] 4 (0, 0)) ∧ W'.heap[w2.heap.size]? = some (.deferred (some [])) ∧ Hid (false = rr) ∧ Ex (fun _ => False) w W') ?hit ?done ?stop)
  case hit =>
    intro r hr1 hr2 hr3 hr4 hr5 hr6
    obtain ⟨rD, hrD⟩ : ∃ rD : Loop, { r with state := .done, pending := some .ret } = rD := ⟨_, rfl⟩
    obtain ⟨W1, hW1⟩ : ∃ W1, (w2.alloc (.deferred (some []))).alloc (.loop r) = W1 := ⟨_, rfl⟩
    have hE21 : E w2 W1 := by rw [← hW1]; exact ((E.refl _).alloc _).alloc _
    have hz1 : W1.heap.size = w2.heap.size + 2 := by rw [← hW1, World.size_alloc, World.size_alloc]
    have hD1 : W1.heap[w2.heap.size]? = some (.deferred (some [])) := by rw [← hW1, Below.heap_alloc _ _ _ (by simp)]; exact heap_alloc_new _ _
    have hL1 : W1.heap[w2.heap.size + 1]? = some (.loop r) := by
      have := heap_alloc_new (w2.alloc (.deferred (some []))) (.loop r)
      rw [World.size_alloc, hW1] at this; exact this
    rw [hW1]
    clear hW1
    obtain ⟨D, hDd⟩ : ∃ D, w2.heap.size = D := ⟨_, rfl⟩
    obtain ⟨L, hLd⟩ : ∃ L, w2.heap.size + 1 = L := ⟨_, rfl⟩
    have hq1 : w.heap.size + 3 = D := by omega
    have hq2 : D + 1 = L := by omega
    rw [hLd] at hL1
    rw [hDd] at hD1
    have hJ : EatsX L w.heap.size (fun f => f) (JW L D w.heap.size r) (JW L D w.heap.size rD) := by
      refine ⟨?_, ?_, ?_, ?_⟩
      · rintro ps X W ⟨hl, hd, hr, rfl⟩ i hi
        have := lt_blk hl
        rcases hi with rfl | rfl | rfl <;> omega
      · rintro ps X W W' ⟨hl, hd, hr, rfl⟩ hk
        exact ⟨(hk _ (.inl rfl)).trans hl, (hk _ (.inr (.inl rfl))).trans hd, (hk _ (.inr (.inr rfl))).trans hr, rfl⟩
      · intro ps X W x f m hf hj hps hpx' hwx
        have hf : f = true := hf
        subst hf
        obtain ⟨hl, hd, hr, rfl⟩ := hj
        refine (yield_round (W2 := W) (a₁ := { tmps := #[.slice A n c, .slice As ns cs, undef, undef, .pointer (some ⟨w.heap.size, 0, none⟩), undef, .bool true, .slice A n c, .slice As ns cs, .func (.func 103) #[] #[ptr (w.heap.size + 1), ptr (w.heap.size + 1 + 1)], .agg #[.int .i64 x.1, .int .i64 x.2.1, .int .i64 x.2.2], .bool true, undef, undef], defers := [] })
          hl hl hr1 hr2 (by rw [hr4]; rfl) (R := fun W' => ∃ X', JW L D w.heap.size r (ps ++ [(x, true)]) X' W' ∧ Ex (fun i => i = L ∨ i = D ∨ i = w.heap.size) W W' ∧ ∀ i, X' i → (i = L ∨ i = D ∨ i = w.heap.size) ∨ W.heap.size ≤ i) (Rx := fun _ => False) ?assign ?body).mono (fun e W' h => ?post)
        case post =>
          rcases h with h | ⟨_, h⟩
          · exact h
          · exact h.elim
        case assign =>
          intro K hK
          unfold ltV
          rw [hr3, hr4, hr5]
          gi_wp2
          exact hK
        case body =>
          obtain ⟨r', hr'⟩ : ∃ r' : Loop, { r with state := .busy } = r' := ⟨_, rfl⟩
          rw [hr', hr6]
          clear hr' hr3 hr4 hr5 hr6
          obtain ⟨V0, hV0⟩ : ∃ V0, W.putObj L (.loop r') = V0 := ⟨_, rfl⟩
          have hlL := lt_blk hl
          have hl0 : V0.heap[L]? = some (.loop r') := by rw [← hV0]; exact World.putObj_heap_same hlL
          have hx0 : Ex (fun i => i = L) W V0 := by rw [← hV0]; exact (Ex.refl (fun i => i = L) W).put L _ (.inr rfl)
          have hd0 : V0.heap[D]? = _ := (hx0.block _ (lt_blk hd) (by omega)).trans hd
          have hr0 : V0.heap[w.heap.size]? = _ := (hx0.block _ (lt_blk hr) (by omega)).trans hr
          rw [hV0]
          clear hV0
          gi_wp2
          have hl1 : (V0.putObj L (.loop r)).heap[L]? = some (.loop r) := World.putObj_heap_same (lt_blk hl0)
          refine ⟨_, ⟨hl1, (World.putObj_heap_other (by omega)).trans hd0, (World.putObj_heap_other (by omega)).trans hr0, rfl⟩, (hx0.mono (fun _ _ h => .inl h)).put L _ (.inr (.inl rfl)), fun i hi => .inl hi⟩
      · intro ps X W x f m hf hj hps hpx' hwx
        have hf : f = false := hf
        subst hf
        obtain ⟨hl, hd, hr, rfl⟩ := hj
        refine (yield_round (W2 := W) (a₁ := { tmps := #[.slice A n c, .slice As ns cs, undef, undef, .pointer (some ⟨w.heap.size, 0, none⟩), undef, .bool false, .slice A n c, .slice As ns cs, .func (.func 103) #[] #[ptr (w.heap.size + 1), ptr (w.heap.size + 1 + 1)], .agg #[.int .i64 x.1, .int .i64 x.2.1, .int .i64 x.2.2], .bool false, undef, undef], defers := [] })
          hl hl hr1 hr2 (by rw [hr4]; rfl) (R := fun _ => False) (Rx := fun W' => ∃ X', JW L D w.heap.size rD (ps ++ [(x, false)]) X' W' ∧ Ex (fun i => i = L ∨ i = D ∨ i = w.heap.size) W W' ∧ ∀ i, X' i → (i = L ∨ i = D ∨ i = w.heap.size) ∨ W.heap.size ≤ i) ?assign ?body).mono (fun e W' h => ?post)
        case post =>
          rcases h with ⟨_, h⟩ | h
          · exact h.elim
          · exact h
        case assign =>
          intro K hK
          unfold ltV
          rw [hr3, hr4, hr5]
          gi_wp2
          exact hK
        case body =>
          obtain ⟨r', hr'⟩ : ∃ r' : Loop, { r with state := .busy } = r' := ⟨_, rfl⟩
          rw [hrD, hr', hr6]
          clear hrD hr' hr3 hr4 hr5 hr6
          obtain ⟨V0, hV0⟩ : ∃ V0, W.putObj L (.loop r') = V0 := ⟨_, rfl⟩
          have hlL := lt_blk hl
          have hl0 : V0.heap[L]? = some (.loop r') := by rw [← hV0]; exact World.putObj_heap_same hlL
          have hx0 : Ex (fun i => i = L) W V0 := by rw [← hV0]; exact (Ex.refl (fun i => i = L) W).put L _ (.inr rfl)
          have hd0 : V0.heap[D]? = _ := (hx0.block _ (lt_blk hd) (by omega)).trans hd
          have hr0 : V0.heap[w.heap.size]? = _ := (hx0.block _ (lt_blk hr) (by omega)).trans hr
          obtain ⟨q1, f1⟩ := cell_one hr0
          rw [hV0]
          clear hV0
          gi_wp2
          obtain ⟨V1, hV1⟩ : ∃ V1, V0.setCell ⟨w.heap.size, 0, none⟩ (.bool false) = V1 := ⟨_, rfl⟩
          have hx1 : Ex (fun i => i = w.heap.size) V0 V1 := by rw [← hV1]; exact (Ex.refl (fun i => i = w.heap.size) V0).setCell ⟨w.heap.size, 0, none⟩ (.inr rfl) _
          have hr1' : V1.heap[w.heap.size]? = some (.cells #[.bool false] 4 (0, 0)) := by rw [← hV1]; exact heap_setCell_same _ _ 0 _ _ _ hr0
          have hl1 : V1.heap[L]? = _ := (hx1.block _ (lt_blk hl0) (by omega)).trans hl0
          have hd1 : V1.heap[D]? = _ := (hx1.block _ (lt_blk hd0) (by omega)).trans hd0
          rw [hV1]
          have hl2 : (V1.putObj L (.loop rD)).heap[L]? = some (.loop rD) := World.putObj_heap_same (lt_blk hl1)
          refine ⟨hl1, _, ⟨hl2, (World.putObj_heap_other (by omega)).trans hd1, (World.putObj_heap_other (by omega)).trans hr1', rfl⟩, ?_, fun i hi => .inl hi⟩
          exact (hx0.trans hx1 (Z := fun i => i = L ∨ i = D ∨ i = w.heap.size) (fun _ _ h => .inl h) (fun _ _ h => .inr (.inr h))).put L _ (.inr (.inl rfl))
    have h0 : JW L D w.heap.size r [] (fun i => i = L ∨ i = D ∨ i = w.heap.size) W1 := ⟨hL1, hD1, (hE21.block (by omega)).trans hbt, rfl⟩
    have hC1 := spieces1_c hJ rfl W1 (w.heap.size + 1) (w.heap.size + 1 + 1) A n c l As ns cs s ((hA.e hEw).e hE21) ((hS.e hEw).e hE21) HAN.out.1 HAN.out.2 HP.out.1 HP.out.2 HCan.out ((hE21.block (by omega)).trans hba) ((hE21.block (by omega)).trans hbc) HCnt.out hns _ h0
      (fun h => by rcases h with h | h | h <;> omega) (fun h => by rcases h with h | h | h <;> omega)
    rw [hLd]
    refine (show Calls Try.prog 103 (#[.func (.yield L) #[] #[]] ++ #[ptr (w.heap.size + 1), ptr (w.heap.size + 1 + 1)]) W1 _ from hC1).mono ?_
    rintro e W' ⟨hv, ps, us, X', hPt, hor, hX, _⟩
    have hXw : Ex (fun _ => False) w W' := (Ex.of_e (X := fun _ => False) (hEw.trans hE21)).trans hX (fun _ _ x => x.elim) (fun i hi x => by rcases x with h | h | h <;> omega)
    rw [hDd]
    rcases hor with ⟨⟨hl, hd, hr, _⟩, hu, hall⟩ | ⟨⟨hl, hd, hr, _⟩, hu, hex⟩
    · exact ⟨hv, .inl ⟨hl, hr, hd, (HT.out us ps hPt hu hall).symm, hXw⟩⟩
    · exact ⟨hv, .inr ⟨by rw [hrD]; exact hl, hr, hd, (HFa.out us ps hPt hu hex).symm, hXw⟩⟩
  case done =>
    rintro W' o ⟨hb, hd, hrr, hE⟩ hlt
    have v1 : (W'.putObj (w2.heap.size + 1) o).heap[w.heap.size]? = _ := (World.putObj_heap_other (by omega)).trans hb
    have vD : (W'.putObj (w2.heap.size + 1) o).heap[w2.heap.size]? = _ := (World.putObj_heap_other (by omega)).trans hd
    have vE : Ex (fun _ => False) w (W'.putObj (w2.heap.size + 1) o) := hE.put _ _ (.inl (by omega))
    obtain ⟨V, hV⟩ : ∃ V, W'.putObj (w2.heap.size + 1) o = V := ⟨_, rfl⟩
    obtain ⟨D, hDd⟩ : ∃ D, w2.heap.size = D := ⟨_, rfl⟩
    have hDg : w.heap.size < D := by omega
    rw [hV] at v1 vD vE ⊢
    rw [hDd] at vD ⊢
    obtain ⟨q1, f1⟩ := cell_one v1
    clear hV hDd hlt hz2 hbt hba hbc hb hd hE
    gi_wp2
    obtain ⟨V5, hV5⟩ : ∃ V5, V.setCell ⟨w.heap.size, 0, none⟩ (.bool true) = V5 := ⟨_, rfl⟩
    have x5 : Ex (fun i => i = w.heap.size) V V5 := by rw [← hV5]; exact (Ex.refl (fun i => i = w.heap.size) V).setCell ⟨w.heap.size, 0, none⟩ (.inr rfl) _
    have s1 : V5.heap[w.heap.size]? = some (.cells #[.bool true] 4 (0, 0)) := by rw [← hV5]; exact heap_setCell_same _ _ 0 _ _ _ v1
    have sD : V5.heap[D]? = some (.deferred (some [])) := (x5.block D (lt_blk vD) (by omega)).trans vD
    rw [hV5]
    clear hV5
    refine ⟨by simp, .inl ⟨_, _, rfl, run_takeDeferred sD, ?_⟩⟩
    have r1 := (cell_one (show (V5.putObj D (.deferred none)).heap[w.heap.size]? = _ from (World.putObj_heap_other (by omega)).trans s1)).1
    refine ⟨_, results_cell1 rfl rfl (loadVar_bool r1), ret_bool hrr.out, ?_⟩
    exact (vE.trans ((x5.mono (Z := fun i => i = w.heap.size ∨ i = D) (fun _ _ h => .inl h)).put D _ (.inr (.inr rfl))) (fun _ _ x => x) (fun i hi x => by omega) : Ex (fun _ => False) w _).e (fun _ x => x.elim)
  case stop =>
    rintro W' o ⟨hb, hd, hrr, hE⟩ hlt
    have v1 : (W'.putObj (w2.heap.size + 1) o).heap[w.heap.size]? = _ := (World.putObj_heap_other (by omega)).trans hb
    have vD : (W'.putObj (w2.heap.size + 1) o).heap[w2.heap.size]? = _ := (World.putObj_heap_other (by omega)).trans hd
    have vE : Ex (fun _ => False) w (W'.putObj (w2.heap.size + 1) o) := hE.put _ _ (.inl (by omega))
    obtain ⟨V, hV⟩ : ∃ V, W'.putObj (w2.heap.size + 1) o = V := ⟨_, rfl⟩
    obtain ⟨D, hDd⟩ : ∃ D, w2.heap.size = D := ⟨_, rfl⟩
    have hDg : w.heap.size < D := by omega
    rw [hV] at v1 vD vE ⊢
    rw [hDd] at vD ⊢
    clear hV hDd hlt hz2 hbt hba hbc hb hd hE
    refine (wpIn_wide (n := 3)).1 ?_
    gi_wp2
    refine ⟨by simp, .inl ⟨_, _, rfl, run_takeDeferred vD, ?_⟩⟩
    have r1 := (cell_one (show (V.putObj D (.deferred none)).heap[w.heap.size]? = _ from (World.putObj_heap_other (by omega)).trans v1)).1
    refine ⟨_, results_cell1 rfl rfl (loadVar_bool r1), ret_bool hrr.out, ?_⟩
    exact (vE.put (l := D) (o := .deferred none) (.inl (by omega))).e (fun _ x => x.elim)
end Go.Proofs.Ytgbamgijpgjmgaa
/- slices.Grow and slices.Concat at lots; lots.Union, lots.Within. -/
namespace Go.Proofs.Ytgbamgijpgjmgaa
open Go.RowKit Go.Shelf

set_option maxHeartbeats 4000000 in
set_option maxRecDepth 100000 in
theorem growL_c (k : Nat) (w : World) (hk : k ≤ 1000000) : Calls Try.prog 91 #[.slice none 0 0, .int .i64 k] w (RetL w []) := by
  obtain ⟨i0, hi0, hz0, hs0, hy0⟩ := info_parts lotInfo
  rcases Nat.eq_zero_or_pos k with h0 | h0
  · subst h0
    go_enter Try.func91, Try.ntmps91
    go_wp2_with fail
    go_ret
    exact RetL.mk_ rfl (OwnL.nil _ _) (E.refl _)
  · have hkp : (0 : Int) < (k : Int) := by omega
    have hkn : ¬ (k : Int) < 0 := by omega
    have hwr : IntKind.i64.wrap ((k : Int)) = (k : Int) := by rw [IntKind.wrap_i64]; omega
    have hrz : ∀ ty, (Builtin.append_ #[22, 3] ty #[.slice none 0 0, .int .i64 (k : Int)]).run Try.prog w =
        .ok (.slice (some ⟨w.heap.size, 0, none⟩) k (grownCap w k 0 39)) (w.drew.alloc (.cells (#[] ++ Builtin.zeroCells (Value.agg #[.int .i64 0, .int .i64 0, .int .i64 0]).cells k ++ Builtin.zeroCells (Value.agg #[.int .i64 0, .int .i64 0, .int .i64 0]).cells (grownCap w k 0 39 - k)) 39)) := fun ty => by
      have h := Lib.run_append_grow_zeros (P := Try.prog) w 22 3 ty 39 i0 _ .i64 .i64 Try.underlying22 Try.underlying3 hi0 hz0 none 0 0 [] (run_firstCells_none w.drew i0.size 0 0 0) k h0 (by omega) (by omega) (by omega)
        (by rw [hy0]; omega) (by rw [hy0]; exact growslice_fits (by omega) (by omega))
      rw [Nat.zero_add] at h
      exact h
    have hG1 := grownCap_ge w k 0 39
    have hG2 := grownCap_le_maxLen w k 0 39 (by unfold maxLen; omega)
    generalize grownCap w k 0 39 = G at *
    have hG3 : G ≤ 9223372036854775807 := by unfold maxLen at hG2; omega
    have hO : OwnL (w.drew.alloc (.cells (#[] ++ Builtin.zeroCells (Value.agg #[.int .i64 0, .int .i64 0, .int .i64 0]).cells k ++ Builtin.zeroCells (Value.agg #[.int .i64 0, .int .i64 0, .int .i64 0]).cells (G - k)) 39)) w.heap.size (some ⟨w.heap.size, 0, none⟩) 0 G [] := by
      refine ⟨rfl, ⟨by simp [flatL], .inr ⟨w.heap.size, G, _, rfl, Nat.le_refl _, heap_alloc_new w.drew _, Nat.zero_le _, hG2, ?_, by simp [flatL]⟩⟩, by simp⟩
      rw [Array.size_append, Array.size_append, size_zeroCells, size_zeroCells]
      have : (Value.agg #[.int .i64 0, .int .i64 0, .int .i64 0]).cells.size = 3 := rfl
      rw [this]
      simp
      omega
    have hE := ((E.refl w).drew).alloc (.cells (#[] ++ Builtin.zeroCells (Value.agg #[.int .i64 0, .int .i64 0, .int .i64 0]).cells k ++ Builtin.zeroCells (Value.agg #[.int .i64 0, .int .i64 0, .int .i64 0]).cells (G - k)) 39)
    generalize w.drew.alloc (.cells (#[] ++ Builtin.zeroCells (Value.agg #[.int .i64 0, .int .i64 0, .int .i64 0]).cells k ++ Builtin.zeroCells (Value.agg #[.int .i64 0, .int .i64 0, .int .i64 0]).cells (G - k)) 39) = w2 at hrz hO hE
    have HO := Lib.hid (And.intro hO hE)
    have hG0 : 0 ≤ G := Nat.zero_le _
    clear hO hE hG2 hi0 hz0 hs0 hy0
    go_enter Try.func91, Try.ntmps91
    go_wp2_with (at_builtin; refine Lib.wpList_append_run _ rfl _ _ _ _ rfl _ _ rfl rfl _ _ (hrz _) ?_)
    go_ret
    exact RetL.mk_ rfl HO.out.1 HO.out.2

theorem cells2_at {w : World} {B : Nat} {x y : Value} {T : TypeId} (h : w.heap[B]? = some (.cells #[x, y] T (0, 0))) : w.cell? ⟨B, 0, none⟩ = some x ∧ w.cell? ⟨B, 1, none⟩ = some y := ⟨cell_of_row _ _ 0 _ _ _ h, cell_of_row _ _ 1 _ _ _ h⟩
set_option maxHeartbeats 4000000 in
set_option maxRecDepth 100000 in
theorem concat_c (B : Nat) (A : Option Addr) (n c : Nat) (l : List Lt) (A' : Option Addr) (n' c' : Nat) (l' : List Lt) (w : World) (hB : w.heap[B]? = some (.cells #[.slice A n c, .slice A' n' c'] 22 (0, 0))) (h1 : LotsAt w A n c l) (h2 : LotsAt w A' n' c' l') (hn : n ≤ 4096) (hn' : n' ≤ 4096) :
    Calls Try.prog 63 #[.slice (some ⟨B, 0, none⟩) 2 2] w (RetL w (l ++ l')) := by
  have HB := Lib.hid hB
  have HN := Lib.hid (And.intro hn hn')
  have hwr0 : IntKind.i64.wrap ((n : Int)) = (n : Int) := by rw [IntKind.wrap_i64]; omega
  have hwr1 : IntKind.i64.wrap ((n : Int) + (n' : Int)) = (n : Int) + (n' : Int) := by rw [IntKind.wrap_i64]; omega
  have hp0 : ¬ (n : Int) < 0 := by omega
  have hp1 : ¬ (n : Int) + (n' : Int) < 0 := by omega
  have hBl := lt_blk hB
  have HGr := Lib.hid (fun W => growL_c (n + n') W (by omega))
  rw [Int.natCast_add] at HGr
  clear hB hn hn'
  go_enter Try.func63, Try.ntmps63
  go_wp2_with fail
  go_loopw [3, 11] (fun ts ti wr => E w wr ∧ ((ti = .int .i64 0 ∧ ts = .int .i64 0) ∨ (ti = .int .i64 1 ∧ ts = .int .i64 n) ∨ (ti = .int .i64 2 ∧ ts = .int .i64 ((n : Int) + n')))) (fun _ ti _ => 2 - (intOf ti).toNat)
  case atStart => exact ⟨E.refl _, .inl ⟨rfl, rfl⟩⟩
  case round =>
    obtain ⟨hE, hr⟩ := hrel
    obtain ⟨b0, b1⟩ := cells2_at ((hE.block hBl).trans HB.out)
    have hBr := Nat.lt_of_lt_of_le hBl hE.le
    rcases hr with ⟨rfl, rfl⟩ | ⟨rfl, rfl⟩ | ⟨rfl, rfl⟩
    · go_wp2_with fail
      go_roundw
      case rel => exact ⟨hE, .inr (.inl ⟨rfl, rfl⟩)⟩
      case measure => simp [intOf]
    · go_wp2_with fail
      go_roundw
      case rel => exact ⟨hE, .inr (.inr ⟨rfl, rfl⟩)⟩
      case measure => simp [intOf]
    · go_wp2_with fail
      refine (HGr.out _).mono ?_
      rintro e w3 ⟨A3, n3, c3, rfl, hO3, hE3⟩
      have hE03 := hE.trans hE3
      have hle := hE.le
      go_wp2_with fail
      go_loopw [6, 27] (fun ts ti wr => ∃ (n1 c1 : Nat) (A1 : Option Addr), ts = .slice A1 n1 c1 ∧ E w wr ∧ ((ti = .int .i64 0 ∧ OwnL wr w.heap.size A1 n1 c1 []) ∨ (ti = .int .i64 1 ∧ OwnL wr w.heap.size A1 n1 c1 l) ∨ (ti = .int .i64 2 ∧ OwnL wr w.heap.size A1 n1 c1 (l ++ l')))) (fun _ ti _ => 2 - (intOf ti).toNat)
      case atStart => exact ⟨n3, c3, A3, rfl, hE03, .inl ⟨rfl, hO3.rebase hle⟩⟩
      case round =>
        clear hO3 hE03 hE3 b0 b1 hBr
        obtain ⟨n1, c1, A1, rfl, hE, hr⟩ := hrel
        obtain ⟨b0, b1⟩ := cells2_at ((hE.block hBl).trans HB.out)
        have hBr := Nat.lt_of_lt_of_le hBl hE.le
        have hle2 := hE.le
        rcases hr with ⟨rfl, hO⟩ | ⟨rfl, hO⟩ | ⟨rfl, hO⟩
        · have hq : n1 + n ≤ 1099511627776 := by have := hO.1; have := HN.out; simp at *; omega
          have hs := h1.e hE
          go_wp2_with (at_builtin; refine wpList_appL _ rfl _ _ rfl w.heap.size A1 n1 c1 _ rfl hO A n c l rfl hs hq hle2 ?_; intro A4 c4 w4 hO4 hG4 hB4 hor4)
          go_roundw
          case rel => exact ⟨n1 + n, c4, A4, rfl, hE.up hB4, .inr (.inl ⟨rfl, hO4⟩)⟩
          case measure => simp [intOf]
        · have hq : n1 + n' ≤ 1099511627776 := by have := hO.1; have := h1.len; have := HN.out; omega
          have hs := h2.e hE
          go_wp2_with (at_builtin; refine wpList_appL _ rfl _ _ rfl w.heap.size A1 n1 c1 _ rfl hO A' n' c' l' rfl hs hq hle2 ?_; intro A4 c4 w4 hO4 hG4 hB4 hor4)
          go_roundw
          case rel => exact ⟨n1 + n', c4, A4, rfl, hE.up hB4, .inr (.inr ⟨rfl, hO4⟩)⟩
          case measure => simp [intOf]
        · go_wp2_with fail
          go_ret
          exact RetL.mk_ rfl hO hE
set_option maxHeartbeats 4000000 in
set_option maxRecDepth 100000 in
theorem lUnion_c (A : Option Addr) (n c : Nat) (l : List Lt) (A' : Option Addr) (n' c' : Nat) (l' : List Lt) (w : World) (h1 : LotsAt w A n c l) (h2 : LotsAt w A' n' c' l') :
    Calls Try.prog 31 #[.slice A n c, .slice A' n' c'] w (RetL w (lunion l l')) := by
  have HV := Lib.hid (valid_c A n c l w h1)
  have HV2 := Lib.hid (fun W (hE : E w W) => valid_c A' n' c' l' W (h2.e hE))
  cases hv : validB l
  · rw [hv] at HV
    have HF := Lib.hid (show lunion l l' = [] by rw [lunion, hv]; rfl)
    clear hv
    go_enter Try.func31, Try.ntmps31
    go_wp2_with fail
    refine HV.out.mono ?_
    rintro e w2 ⟨rfl, hE2⟩
    go_wp2_with fail
    go_ret
    exact RetL.mk_ HF.out (OwnL.nil _ _) hE2
  · rw [hv] at HV
    cases hv2 : validB l'
    · rw [hv2] at HV2
      have HF := Lib.hid (show lunion l l' = [] by rw [lunion, hv, hv2]; rfl)
      clear hv hv2
      go_enter Try.func31, Try.ntmps31
      go_wp2_with fail
      refine HV.out.mono ?_
      rintro e w2 ⟨rfl, hE2⟩
      go_wp2_with fail
      refine (HV2.out _ hE2).mono ?_
      rintro e w3 ⟨rfl, hE3⟩
      go_wp2_with fail
      go_ret
      exact RetL.mk_ HF.out (OwnL.nil _ _) (hE2.trans hE3)
    · rw [hv2] at HV2
      obtain ⟨v1, v2⟩ := validB_iff.1 hv
      obtain ⟨u1, u2⟩ := validB_iff.1 hv2
      have hl1 := h1.len
      have hl2 := h2.len
      have HF := Lib.hid (show lunion l l' = setS (l ++ l') by rw [lunion, hv, hv2]; rfl)
      have hp : ∀ y ∈ l ++ l', possB y = true := fun y hy => by
        rcases List.mem_append.1 hy with hy | hy
        · exact v2 y hy
        · exact u2 y hy
      have HN := Lib.hid (show n ≤ 4096 ∧ n' ≤ 4096 by omega)
      have HLL := Lib.hid (show (l ++ l').length ≤ 8192 by rw [List.length_append]; omega)
      have HSS := Lib.hid (fun W A9 n9 c9 (h9 : LotsAt W A9 n9 c9 (l ++ l')) (hn9 : n9 ≤ 100000) => spSet_c A9 n9 c9 (l ++ l') W h9 hp hn9)
      clear hv hv2 v1 v2 u1 u2 hl1 hl2 hp
      go_enter Try.func31, Try.ntmps31
      go_wp2_with fail
      refine HV.out.mono ?_
      rintro e w2 ⟨rfl, hE2⟩
      go_wp2_with fail
      refine (HV2.out _ hE2).mono ?_
      rintro e w3 ⟨rfl, hE3⟩
      have hE23 := hE2.trans hE3
      have hE4 : E w3 (w3.alloc (.cells #[.slice A n c, .slice A' n' c'] 22)) := (E.refl _).alloc _
      have HC := Lib.hid (concat_c w3.heap.size A n c l A' n' c' l' _ (heap_alloc_new w3 (.cells #[.slice A n c, .slice A' n' c'] 22)) (h1.e (hE23.trans hE4)) (h2.e (hE23.trans hE4)) HN.out.1 HN.out.2)
      have HE4 := Lib.hid (hE23.trans hE4)
      go_wp2_with fail
      refine HC.out.mono ?_
      rintro e w5 ⟨A5, n5, c5, rfl, hO5, hE5⟩
      have hE05 := HE4.out.trans hE5
      have hle := hE05.le
      have HS5 := Lib.hid (HSS.out w5 A5 n5 c5 hO5.reads (by have := hO5.1; have := HLL.out; omega))
      go_wp2_with fail
      refine HS5.out.mono ?_
      rintro e w6 ⟨A6, n6, c6, rfl, hO6, hE6⟩
      go_wp2_with fail
      go_ret
      exact RetL.mk_ HF.out (hO6.rebase hle) (hE05.trans hE6)
set_option maxHeartbeats 4000000 in
set_option maxRecDepth 100000 in
theorem lWithin_c (A : Option Addr) (n c : Nat) (l : List Lt) (A' : Option Addr) (n' c' : Nat) (l' : List Lt) (w : World) (h1 : LotsAt w A n c l) (h2 : LotsAt w A' n' c' l') (hn : n ≤ 300) (hn' : n' ≤ 300) :
    Calls Try.prog 34 #[.slice A n c, .slice A' n' c'] w (RetK w (lwithin l l')) := by
  have HV := Lib.hid (valid_c A n c l w h1)
  have HV2 := Lib.hid (fun W (hE : E w W) => valid_c A' n' c' l' W (h2.e hE))
  cases hv : validB l
  · rw [hv] at HV
    have HF := Lib.hid (show lwithin l l' = false by rw [lwithin, hv]; rfl)
    clear hv
    go_enter Try.func34, Try.ntmps34
    go_wp2_with fail
    refine HV.out.mono ?_
    rintro e w2 ⟨rfl, hE2⟩
    go_wp2_with fail
    go_ret
    exact ⟨ret_bool HF.out.symm, hE2⟩
  · rw [hv] at HV
    cases hv2 : validB l'
    · rw [hv2] at HV2
      have HF := Lib.hid (show lwithin l l' = false by rw [lwithin, hv, hv2]; rfl)
      clear hv hv2
      go_enter Try.func34, Try.ntmps34
      go_wp2_with fail
      refine HV.out.mono ?_
      rintro e w2 ⟨rfl, hE2⟩
      go_wp2_with fail
      refine (HV2.out _ hE2).mono ?_
      rintro e w3 ⟨rfl, hE3⟩
      go_wp2_with fail
      go_ret
      exact ⟨ret_bool HF.out.symm, hE2.trans hE3⟩
    · rw [hv2] at HV2
      obtain ⟨v1, v2⟩ := validB_iff.1 hv
      obtain ⟨u1, u2⟩ := validB_iff.1 hv2
      have hl2 := h2.len
      have HF := Lib.hid (show lwithin l l' = (U l).all (hasB (setS l')) by rw [lwithin, hv, hv2, hasB_set]; rfl)
      obtain ⟨m1, m2, m3⟩ := setS_facts u2
      have HS2 := Lib.hid (fun W (hE : E w W) => spSet_c A' n' c' l' W (h2.e hE) u2 (by omega))
      have HM := Lib.hid (And.intro m1 m3)
      have HPl := Lib.hid v2
      have hml : (setS l').length ≤ 300 := by omega
      have HKL := Lib.hid hml
      clear hv hv2 v1 v2 u1 u2 m1 m2 m3 hl2 hml
      go_enter Try.func34, Try.ntmps34
      go_wp2_with fail
      refine HV.out.mono ?_
      rintro e w2 ⟨rfl, hE2⟩
      go_wp2_with fail
      refine (HV2.out _ hE2).mono ?_
      rintro e w3 ⟨rfl, hE3⟩
      have hE23 := hE2.trans hE3
      go_wp2_with fail
      refine (HS2.out _ hE23).mono ?_
      rintro e w4 ⟨A4, n4, c4, rfl, hO4, hE4⟩
      have hE24 := hE23.trans hE4
      have q4 : n4 ≤ 300 := by have := hO4.1; have := HKL.out; omega
      have HD := Lib.hid (spWithin_c w4 A n c l A4 n4 c4 (setS l') (h1.e hE24) hO4.reads HPl.out HM.out.2 HM.out.1 (Nat.le_trans (Nat.mul_le_mul hn (show 2 * n4 + 1 ≤ 601 by omega)) (by omega)) (by omega))
      go_wp2_with fail
      refine HD.out.mono ?_
      rintro e w6 ⟨rfl, hE6⟩
      go_wp2_with fail
      go_ret
      exact ⟨ret_bool HF.out.symm, hE24.trans hE6⟩
end Go.Proofs.Ytgbamgijpgjmgaa
