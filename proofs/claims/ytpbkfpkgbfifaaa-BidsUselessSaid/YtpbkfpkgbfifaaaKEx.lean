/- The laws' exchanged and less. -/
import Derived.Test.YtpbkfpkgbfifaaaKTo
import Derived.Test.YtpbkfpkgbfifaaaCW
namespace Go.Proofs.Ytpbkfpkgbfifaaa
open Go.RowKit

set_option maxHeartbeats 2000000 in
set_option maxRecDepth 100000 in
theorem less7_q (a b : List Nat) (A1 A2 : Option Addr) (n1 c1 n2 c2 : Nat) (w : World) (h1 : Nums .i64 w A1 n1 c1 (ints a)) (h2 : Nums .i64 w A2 n2 c2 (ints b)) :
    Calls Try.prog 32 #[.slice A1 n1 c1, .slice A2 n2 c2] w fun e w' => e = .returned (.bool (lessN a b)) ∧ Q w w' := by
  have hm1 := h1.n63
  have hm2 := h2.n63
  have HL1 := Lib.hid (show a.length = n1 by rw [← ints_len]; exact h1.len)
  have HL2 := Lib.hid (show b.length = n2 by rw [← ints_len]; exact h2.len)
  obtain ⟨fin, hfin⟩ : ∃ fin, lessN a b = fin := ⟨_, rfl⟩
  rw [hfin]
  have HF := Lib.hid hfin
  clear hfin
  go_enter Try.func32, Try.ntmps32
  go_wp2_with fail
  go_loopw [5] (fun ti wr => ∃ k : Nat, k ≤ n1 ∧ k ≤ n2 ∧ ti = .int .i64 k ∧ Q w wr ∧ Hid (lessN (a.drop k) (b.drop k) = fin)) (fun ti _ => n1 - (intOf ti).toNat)
  case atStart => exact ⟨0, Nat.zero_le _, Nat.zero_le _, rfl, Q.refl _, HF.out⟩
  case round =>
    obtain ⟨k, hk1, hk2, rfl, hq, hle⟩ := hrel
    by_cases l1 : (k : Int) < (n1 : Int)
    · by_cases l2 : (k : Int) < (n2 : Int)
      · obtain ⟨b1, o1, x, rfl, hb1, hx, hwx, hcx⟩ := (h1.q hq).get (i := k) (by omega)
        obtain ⟨b2, o2, y, rfl, hb2, hy, hwy, hcy⟩ := (h2.q hq).get (i := k) (by omega)
        obtain ⟨xa, hxa, rfl⟩ : ∃ xa : Nat, a[k]? = some xa ∧ (xa : Int) = x := by
          rw [ints, List.getElem?_map] at hx
          cases e : a[k]? with
          | none => rw [e] at hx; simp at hx
          | some z => rw [e] at hx; exact ⟨z, rfl, by simpa using hx⟩
        obtain ⟨yb, hyb, rfl⟩ : ∃ yb : Nat, b[k]? = some yb ∧ (yb : Int) = y := by
          rw [ints, List.getElem?_map] at hy
          cases e : b[k]? with
          | none => rw [e] at hy; simp at hy
          | some z => rw [e] at hy; exact ⟨z, rfl, by simpa using hy⟩
        have HS := Lib.hid (show (if xa = yb then lessN (a.drop (k + 1)) (b.drop (k + 1)) else decide (xa < yb)) = fin by rw [← hle.out, drop_at hxa, drop_at hyb]; rfl)
        clear hle hx hy hxa hyb hwx hwy
        by_cases he : xa = yb
        · have hd : ((xa : Int) != (yb : Int)) = false := by simp [he]
          have HN := Lib.hid (show lessN (a.drop (k + 1)) (b.drop (k + 1)) = fin by rw [← HS.out, if_pos he])
          clear he
          go_wp2_with fail
          go_quiet (fail)
          go_wp2_with fail
          go_roundw
          case rel => exact ⟨k + 1, by omega, by omega, by go_num, hq.drewN _, HN.out⟩
          case measure => simp [intOf]; omega
        · have hd : ((xa : Int) != (yb : Int)) = true := by simp; omega
          have HN := Lib.hid (show fin = decide (xa < yb) by rw [← HS.out, if_neg he])
          go_wp2_with fail
          go_quiet (fail)
          go_wp2_with fail
          go_quiet (fail)
          go_wp2_with fail
          go_ret
          exact ⟨ret_bool (by rw [HN.out]; first | done | simp), by first | exact (hq.drewN _).drewN _ | exact hq.drewN _⟩
      · have HN := Lib.hid (show fin = decide ((n1 : Int) < (n2 : Int)) by
          rw [← hle.out, drop_end HL2.out (by omega)]
          have : ¬ (n1 : Int) < (n2 : Int) := by omega
          rw [decide_eq_false this]
          cases a.drop k <;> rfl)
        go_wp2_with fail
        go_ret
        exact ⟨ret_bool (by rw [HN.out]; simp), hq⟩
    · have HN := Lib.hid (show fin = decide ((n1 : Int) < (n2 : Int)) by
        rw [← hle.out, drop_end HL1.out (by omega)]
        by_cases e : n1 < n2
        · have hd : b.drop k ≠ [] := by intro h; have := congrArg List.length h; rw [List.length_drop, HL2.out] at this; simp at this; omega
          rw [decide_eq_true (by omega)]
          cases hb : b.drop k with
          | nil => exact absurd hb hd
          | cons z r => rfl
        · rw [drop_end HL2.out (by omega), decide_eq_false (by omega)]; rfl)
      go_wp2_with fail
      go_ret
      exact ⟨ret_bool (by rw [HN.out]; simp), hq⟩
theorem less7_c (a b : List Nat) (A1 A2 : Option Addr) (n1 c1 n2 c2 : Nat) (w : World) (h1 : Nums .i64 w A1 n1 c1 (ints a)) (h2 : Nums .i64 w A2 n2 c2 (ints b)) :
    Calls Try.prog 32 #[.slice A1 n1 c1, .slice A2 n2 c2] w (RetK w (lessN a b)) := by
  refine (less7_q a b A1 A2 n1 c1 n2 c2 w h1 h2).mono ?_
  rintro e w' ⟨rfl, hq⟩
  exact ⟨rfl, E.of_q hq⟩

theorem exF_len (i y : Nat) : ∀ (k : Nat) (put : Bool) (c : List Nat), (exF i y k put c).length ≤ c.length + 1
  | k, put, [] => by unfold exF; split <;> simp
  | k, put, x :: r => by
    have ih := exF_len i y (k + 1) (put || decide (y < x)) r
    unfold exF
    rw [List.length_append, List.length_append]
    cases put
    · by_cases h : y < x
      · have e := exF_put i y (k + 1) r
        have e2 : (exF i y (k + 1) true r).length ≤ r.length := by
          rw [e]
          split
          · exact Nat.le_refl _
          · exact (List.eraseIdx_sublist _ _).length_le
        simp only [true_and, if_pos h, Bool.false_or, decide_eq_true h, List.length_cons, List.length_nil]
        split <;> simp <;> omega
      · simp only [true_and, if_neg h, Bool.false_or, decide_eq_false h, List.length_cons, List.length_nil] at ih ⊢
        split <;> simp <;> omega
    · simp only [Bool.true_eq_false, false_and, if_false, Bool.true_or, List.length_cons, List.length_nil] at ih ⊢
      split <;> simp <;> omega
set_option maxHeartbeats 4000000 in
set_option maxRecDepth 100000 in
theorem exchanged_c (A : Option Addr) (n c : Nat) (ch : List Nat) (i y : Nat) (w : World) (h : Nums .i64 w A n c (ints ch)) (hn : n ≤ 1000) (hy : y ≤ 1000) :
    Calls Try.prog 30 #[.slice A n c, .int .i64 i, .int .i64 y] w (RetOwn .i64 3 w (ints (exch ch i y))) := by
  have HL := Lib.hid (show ch.length = n by rw [← ints_len]; exact h.len)
  obtain ⟨fin, hfin⟩ : ∃ fin, exch ch i y = fin := ⟨_, rfl⟩
  have HF := Lib.hid (show exF i y 0 false ch = fin from hfin)
  rw [hfin]
  clear hfin
  have hwy : (Lit.int .i64 (y : Int)).wf = true := wf_of_i64 (by omega) (by omega)
  go_enter Try.func30, Try.ntmps30
  go_wp2_with fail
  go_loopw [7, 8, 9] (fun t7 t8 ti wr => ∃ (k m c' : Nat) (A' : Option Addr) (put : Bool) (out : List Nat), k ≤ n ∧ ti = .int .i64 k ∧ t8 = .bool put ∧ t7 = .slice A' m c' ∧ Own .i64 3 wr w.heap.size A' m c' (ints out) ∧ E w wr ∧ m ≤ 2 * k ∧ Hid (out ++ exF i y k put (ch.drop k) = fin)) (fun _ _ ti _ => n - (intOf ti).toNat)
  case atStart => exact ⟨0, 0, 0, none, false, [], Nat.zero_le _, rfl, rfl, rfl, Own.nil _ _ _ _, E.refl _, Nat.le_refl _, HF.out⟩
  case round =>
    obtain ⟨k, m, c', A', put, out, hk, rfl, rfl, rfl, hO, hE, hm, hinv⟩ := hrel
    by_cases hkl : (k : Int) < (n : Int)
    · obtain ⟨b, o, x, rfl, hb, hx, hwx, hcx0⟩ := h.get (i := k) (by omega)
      have hcx := (hE.cell (p := ⟨b, o + k, none⟩) hb).trans hcx0
      obtain ⟨xa, hxa, rfl⟩ : ∃ xa : Nat, ch[k]? = some xa ∧ (xa : Int) = x := by
        rw [ints, List.getElem?_map] at hx
        cases e : ch[k]? with
        | none => rw [e] at hx; simp at hx
        | some z => rw [e] at hx; exact ⟨z, rfl, by simpa using hx⟩
      have HI := Lib.hid (show out ++ ((if put = false ∧ y < xa then [y] else []) ++ ((if k = i then [] else [xa]) ++ exF i y (k + 1) (put || decide (y < xa)) (ch.drop (k + 1)))) = fin by rw [← hinv.out, drop_at hxa]; rfl)
      clear hx hxa hinv
      have hle := hE.le
      by_cases hp : put = false ∧ y < xa
      · obtain ⟨rfl, hyx⟩ := hp
        have hyI : (y : Int) < (xa : Int) := by omega
        by_cases hki : k = i
        · have d0 : ((k : Int) != (i : Int)) = false := by simp; omega
          have HK := Lib.hid (show (out ++ [y]) ++ exF i y (k + 1) true (ch.drop (k + 1)) = fin by rw [← HI.out, if_pos ⟨rfl, hyx⟩, if_pos hki]; simp [hyx])
          have HKI := Lib.hid hki
          clear hki HI
          go_wp2_with (first | (refine wpList_app1n intTk _ rfl _ _ rfl w.heap.size _ _ _ _ rfl hO (y : Int) rfl hwy (by omega) hle ?_; intro g1 c1 w1 hO1 hG1 hB1 _; have hE1 := hE.up hB1) | fail)
          exact ⟨⟨k + 1, m + 1, c1, _, true, out ++ [y], by omega, by go_num, rfl, rfl, by rw [ints_app]; exact hO1, hE1, by omega, HK.out⟩, by simp [intOf]; omega⟩
        · have d0 : ((k : Int) != (i : Int)) = true := by simp; omega
          have HK := Lib.hid (show ((out ++ [y]) ++ [xa]) ++ exF i y (k + 1) true (ch.drop (k + 1)) = fin by rw [← HI.out, if_pos ⟨rfl, hyx⟩, if_neg hki]; simp [hyx])
          clear hki HI
          go_wp2_with (first
            | (refine wpList_app1n intTk _ rfl _ _ rfl w.heap.size _ _ _ _ rfl hO1 (xa : Int) rfl hwx (by omega) hle1 ?_; intro g2 c2 w2 hO2 hG2 hB2 _)
            | (refine wpList_app1n intTk _ rfl _ _ rfl w.heap.size _ _ _ _ rfl hO (y : Int) rfl hwy (by omega) hle ?_; intro g1 c1 w1 hO1 hG1 hB1 _; have hE1 := hE.up hB1; have hcx1 := (hE1.cell (p := ⟨b, o + k, none⟩) hb).trans hcx0; have hle1 := hE1.le)
            | fail)
          exact ⟨⟨k + 1, m + 1 + 1, c2, _, true, (out ++ [y]) ++ [xa], by omega, by go_num, rfl, rfl, by rw [ints_app, ints_app]; exact hO2, hE1.up hB2, by omega, HK.out⟩, by simp [intOf]; omega⟩
      · have HP : (put || decide (y < xa)) = put := by
          cases put
          · have : ¬ y < xa := fun e => hp ⟨rfl, e⟩
            simp [this]
          · rfl
        have HI2 := Lib.hid (show out ++ ((if k = i then [] else [xa]) ++ exF i y (k + 1) put (ch.drop (k + 1))) = fin by rw [← HI.out, if_neg hp, HP]; simp)
        clear HI HP
        cases put
        · have hyI : ¬ (y : Int) < (xa : Int) := fun e => hp ⟨rfl, by omega⟩
          clear hp
          by_cases hki : k = i
          · have d0 : ((k : Int) != (i : Int)) = false := by simp; omega
            have HK := Lib.hid (show out ++ exF i y (k + 1) false (ch.drop (k + 1)) = fin by rw [← HI2.out, if_pos hki]; simp)
            have HKI := Lib.hid hki
            clear hki HI2
            go_wp2_with fail
            exact ⟨⟨k + 1, m, c', _, false, out, by omega, by go_num, rfl, rfl, hO, hE, by omega, HK.out⟩, by simp [intOf]; omega⟩
          · have d0 : ((k : Int) != (i : Int)) = true := by simp; omega
            have HK := Lib.hid (show (out ++ [xa]) ++ exF i y (k + 1) false (ch.drop (k + 1)) = fin by rw [← HI2.out, if_neg hki]; simp)
            clear hki HI2
            go_wp2_with (first | (refine wpList_app1n intTk _ rfl _ _ rfl w.heap.size _ _ _ _ rfl hO (xa : Int) rfl hwx (by omega) hle ?_; intro g1 c1 w1 hO1 hG1 hB1 _; have hE1 := hE.up hB1) | fail)
            exact ⟨⟨k + 1, m + 1, c1, _, false, out ++ [xa], by omega, by go_num, rfl, rfl, by rw [ints_app]; exact hO1, hE1, by omega, HK.out⟩, by simp [intOf]; omega⟩
        · clear hp
          by_cases hki : k = i
          · have d0 : ((k : Int) != (i : Int)) = false := by simp; omega
            have HK := Lib.hid (show out ++ exF i y (k + 1) true (ch.drop (k + 1)) = fin by rw [← HI2.out, if_pos hki]; simp)
            have HKI := Lib.hid hki
            clear hki HI2
            go_wp2_with fail
            exact ⟨⟨k + 1, m, c', _, true, out, by omega, by go_num, rfl, rfl, hO, hE, by omega, HK.out⟩, by simp [intOf]; omega⟩
          · have d0 : ((k : Int) != (i : Int)) = true := by simp; omega
            have HK := Lib.hid (show (out ++ [xa]) ++ exF i y (k + 1) true (ch.drop (k + 1)) = fin by rw [← HI2.out, if_neg hki]; simp)
            clear hki HI2
            go_wp2_with (first | (refine wpList_app1n intTk _ rfl _ _ rfl w.heap.size _ _ _ _ rfl hO (xa : Int) rfl hwx (by omega) hle ?_; intro g1 c1 w1 hO1 hG1 hB1 _; have hE1 := hE.up hB1) | fail)
            exact ⟨⟨k + 1, m + 1, c1, _, true, out ++ [xa], by omega, by go_num, rfl, rfl, by rw [ints_app]; exact hO1, hE1, by omega, HK.out⟩, by simp [intOf]; omega⟩
    · have hd : ch.drop k = [] := List.drop_eq_nil_of_le (by have := HL.out; omega)
      rw [hd] at hinv
      have hle := hE.le
      cases put
      · have HK := Lib.hid (show out ++ [y] = fin by rw [← hinv.out]; rfl)
        clear hinv hd
        go_wp2_with (first | (refine wpList_app1n intTk _ rfl _ _ rfl w.heap.size _ _ _ _ rfl hO (y : Int) rfl hwy (by omega) hle ?_; intro g1 c1 w1 hO1 hG1 hB1 _; have hE1 := hE.up hB1) | fail)
        go_ret
        exact ⟨_, _, _, rfl, by rw [← HK.out, ints_app]; exact hO1, hE1⟩
      · have HK := Lib.hid (show out = fin by rw [← hinv.out]; simp [exF])
        clear hinv hd
        go_wp2_with fail
        go_ret
        exact ⟨_, _, _, rfl, by rw [← HK.out]; exact hO, hE⟩
end Go.Proofs.Ytpbkfpkgbfifaaa
