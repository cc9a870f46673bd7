/- A bidder is written into a row of bids (for ClearTruthful). -/
import Derived.Test.YtkcbdnaampiedaaKS
namespace Go.Proofs.Ytkcbdnaampiedaa
open Go.RowKit

theorem flat3_setB : ∀ (q : List (Bd × Sl)) (i : Nat) (p : Bd × Sl) (v : Int), q[i]? = some p → flat3 (q.set i ((v, p.1.2.1, p.1.2.2), p.2)) = (flat3 q).set (i * 3) (.int .i64 v)
  | [], i, p, v, h => by simp at h
  | (x, s) :: q, 0, p, v, h => by simp at h; subst h; simp [flat3]
  | (x, s) :: q, i + 1, p, v, h => by
    simp only [List.getElem?_cons_succ] at h
    have := flat3_setB q i p v h
    simp only [List.set_cons_succ, flat3, this, show (i + 1) * 3 = i * 3 + 3 by omega]
/-- a bidder is written -/
theorem BRow.bidder {T : TypeId} {w : World} {base g n c : Nat} {q : List (Bd × Sl)} (h : BRow T w base (some ⟨g, 0, none⟩) n c q) {i : Nat} {p : Bd × Sl} (hi : q[i]? = some p) (v : Int) (hv : (Lit.int .i64 v).wf = true) :
    BRow T (w.setCell ⟨g, i * 3, none⟩ (.int .i64 v)) base (some ⟨g, 0, none⟩) n c (q.set i ((v, p.1.2.1, p.1.2.2), p.2)) := by
  obtain ⟨h1, h2, h3⟩ := h
  obtain ⟨g1, g2⟩ := World.ownsRow.stored h2 (i * 3) (.int .i64 v)
  rw [← flat3_setB q i p v hi] at g1
  have key : ∀ r : Bd × Sl, Nums .i64 w r.2.1 r.2.2.1 r.2.2.2 r.1.2.2 → (0 < r.2.2.1 → ob r.2.1 ≠ ob (some (⟨g, 0, none⟩ : Addr))) → Nums .i64 (w.setCell ⟨g, i * 3, none⟩ (.int .i64 v)) r.2.1 r.2.2.1 r.2.2.2 r.1.2.2 := fun r hr hne => hr.grown g2 hne
  refine ⟨by simpa using h1, g1, fun r hr => ?_⟩
  rcases List.mem_or_eq_of_mem_set hr with hr | hr
  · obtain ⟨a, b, c, d⟩ := h3 r hr
    exact ⟨a, b, key r c d, d⟩
  · obtain ⟨a, b, c, d⟩ := h3 p (List.mem_of_getElem? hi)
    subst hr
    exact ⟨hv, b, key p c d, d⟩

set_option maxHeartbeats 2000000 in
set_option maxRecDepth 100000 in
/-- what a bid gains: the value less the payment, where it wins -/
theorem gain_c (N : Int) (A : Option Addr) (n c : Nat) (l : List Bd) (i : Nat) (value : Int) (w : World) (h : BidsAt w A n c l) (hN1 : -9223372036854775808 ≤ N) (hN2 : N ≤ 9223372036854775807) (hv : validS N l = 0) (hi : i < n) (hv1 : 0 ≤ value) (hv2 : value ≤ 1099511627776) :
    Calls Try.prog 23 #[.int .i64 N, .slice A n c, .int .i64 i, .int .i64 value] w fun e w' => e = .returned (.int .i64 (if i ∈ (bestS l).1 then value - payS l i else 0)) ∧ E w w' := by
  have hl := h.len
  have hl10 := (validS_ok hv).1
  have HB := Lib.hid (cBest_c N A n c l w h hN1 hN2)
  rw [show bestF N l = ((bestS l).1, (bestS l).2, 0) by rw [bestF, if_pos hv]] at HB
  have HPr := Lib.hid (fun W hE => cPrices_c N A n c l W (h.e hE) hN1 hN2)
  rw [show pricesF N l = (payL l (bestS l).1, 0) by rw [pricesF, if_pos hv]] at HPr
  have hn10 : n ≤ 10 := by omega
  have HG := Lib.hid (payL_get l (bestS l).1 (show i < l.length by omega))
  have hr1 := bestS_range hl10 (pr_of_valid hv)
  have hpp : ∀ x ∈ l, 1 ≤ x.2.1 ∧ x.2.1 ≤ 1099511627776 := fun x hx => ((validS_ok hv).2.1 x hx).2
  have hr2 := bestS_range (filter_valid (f := fun x => x.1 != (l.getD i bd0).1) hl10 hpp).1 (filter_valid (f := fun x => x.1 != (l.getD i bd0).1) hl10 hpp).2
  have hpr := pr_of_valid hv i
  have hpay : -10995116277760 ≤ payS l i ∧ payS l i ≤ 21990232555520 := by unfold payS; omega
  have HMem := Lib.hid (show (ints (bestS l).1).contains (i : Int) = decide (i ∈ (bestS l).1) by
    rw [Bool.eq_iff_iff, List.contains_iff_mem, decide_eq_true_eq, ints, List.mem_map]
    exact ⟨fun ⟨j, hj, e⟩ => by have : j = i := by omega
                                subst this; exact hj, fun hj => ⟨i, hj, rfl⟩⟩)
  have HLn := Lib.hid (payL_len l (bestS l).1)
  clear hr1 hr2 hpr hpp hv
  obtain ⟨res, hres⟩ : ∃ res, (if i ∈ (bestS l).1 then value - payS l i else 0) = res := ⟨_, rfl⟩
  rw [hres]
  have HRES := Lib.hid hres
  clear hres
  go_enter Try.func23, Try.ntmps23
  go_wp2_with fail
  refine HB.out.mono ?_
  rintro e w1 ⟨A1, n1, c1, rfl, hO1, hE1⟩
  go_wp2_with fail
  refine (HPr.out _ hE1).mono ?_
  rintro e w2 ⟨A2, n2, c2, rfl, hO2, hE2⟩
  have hn2 : n2 = n := by rw [← hO2.1]; show (payL l (bestS l).1).length = n; rw [HLn.out]; exact hl
  subst hn2
  have hC := has1_c A1 n1 c1 (ints (bestS l).1) (i : Int) w2 (hO1.reads.e hE2)
  rw [HMem.out] at hC
  have HC := Lib.hid hC
  clear hC
  by_cases hm : i ∈ (bestS l).1
  · rw [decide_eq_true hm] at HC
    have HG2 := HG.out
    rw [if_pos hm] at HG2
    obtain ⟨b, o, x, rfl, hb, hx, hwx, hcx⟩ := (hO2.reads).get (i := i) hi
    have hxe : x = payS l i := by have : (payL l (bestS l).1)[i]? = some x := hx; rw [HG2] at this; injection this with this; exact this.symm
    have HR := Lib.hid (show res = value - payS l i by rw [← HRES.out, if_pos hm])
    go_wp2_with fail
    refine HC.out.mono ?_
    rintro e w3 ⟨rfl, hE3⟩
    have hc3 := (hE3.cell (p := ⟨b, o + i, none⟩) hb).trans hcx
    have hb3 := Nat.lt_of_lt_of_le hb hE3.le
    clear HG HG2 hx
    subst hxe
    generalize payS l i = x at *
    have hinI : (i : Int) < (n2 : Int) := by omega
    go_wp2_with fail
    go_ret
    exact ⟨ret_int HR.out.symm, (hE1.trans hE2).trans hE3⟩
  · rw [decide_eq_false hm] at HC
    have HR := Lib.hid (show res = 0 by rw [← HRES.out, if_neg hm])
    go_wp2_with fail
    refine HC.out.mono ?_
    rintro e w3 ⟨rfl, hE3⟩
    go_wp2_with fail
    go_ret
    exact ⟨ret_int HR.out.symm, (hE1.trans hE2).trans hE3⟩
end Go.Proofs.Ytkcbdnaampiedaa
