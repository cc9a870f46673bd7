/- Prices. -/
import Derived.Test.YtpbkfpkgbfifaaaKM
import Derived.Deep.RegionHeld3
namespace Go.Proofs.Ytpbkfpkgbfifaaa
open Go.RowKit

theorem sKeepK {N : Nat} {w0 w1 w2 : World} (h : N ≤ w1.heap.size ∧ ∀ b o, b < N → w1.cell? ⟨b, o, none⟩ = w0.cell? ⟨b, o, none⟩) (hE : E w1 w2) : N ≤ w2.heap.size ∧ ∀ b o, b < N → w2.cell? ⟨b, o, none⟩ = w0.cell? ⟨b, o, none⟩ :=
  ⟨Nat.le_trans h.1 hE.le, fun b o hb => (hE.cell (p := ⟨b, o, none⟩) (by have := h.1; show b < _; omega)).trans (h.2 b o hb)⟩
theorem sKeepS {N : Nat} {w0 w1 : World} (h : N ≤ w1.heap.size ∧ ∀ b o, b < N → w1.cell? ⟨b, o, none⟩ = w0.cell? ⟨b, o, none⟩) {p : Addr} (hp : N ≤ p.block) (u : Value) : N ≤ (w1.setCell p u).heap.size ∧ ∀ b o, b < N → (w1.setCell p u).cell? ⟨b, o, none⟩ = w0.cell? ⟨b, o, none⟩ := by
  have hB := (Below.refl N w1).setCell hp u
  exact ⟨Nat.le_trans h.1 hB.size, fun b o hb => (hB.cell (p := ⟨b, o, none⟩) hb).trans (h.2 b o hb)⟩
theorem Nums.ex {k : IntKind} {X : Nat → Prop} {w w' : World} {A : Option Addr} {n c : Nat} {l : List Int} (h : Nums k w A n c l) (hX : Ex X w w') (hb : ∀ b, ob A = some b → ¬ X b) : Nums k w' A n c l :=
  ⟨h.len, h.cap, h.mx, h.wf, fun hn => by
    obtain ⟨b, o, e, hlt, hc⟩ := h.at_ hn
    exact ⟨b, o, e, Nat.lt_of_lt_of_le hlt hX.size, fun i hi => by rw [← hc i hi]; exact World.cell?_of_block (hX.block b hlt (hb b (by rw [e]; rfl)))⟩⟩
theorem bestS_range {l : List Bd} (hn : l.length ≤ 10) (hp : ∀ i, 0 ≤ pr l i ∧ pr l i ≤ 1099511627776) : 0 ≤ (bestS l).2 ∧ (bestS l).2 ≤ 10995116277760 ∧ ∀ i ∈ (bestS l).1, i < l.length := by
  have h := bestS_opt (l := l) (fun i => (hp i).1)
  have h0 := h.2.2 [] (feas_nil l)
  have h1 := h.1
  have h2 := h.2.1
  refine ⟨by simp only [val] at h0; omega, ?_, h1.2.1⟩
  by_cases e : (bestS l).1 = []
  · rw [e] at h2; simp only [val] at h2; omega
  · have h3 := allc_le (fun i => (hp i).1) _ _ _ (allc_feas.2 ⟨e, h1⟩)
    have h4 := rest_le hp l.length
    simp only [val] at h3
    omega
/-- what a bid pays -/
def payS (l : List Bd) (i : Nat) : Int := (bestS (l.filter fun x => x.1 != (l.getD i bd0).1)).2 - (bestS l).2 + pr l i
def payL (l : List Bd) (ch : List Nat) : List Int := (List.range l.length).map fun i => if i ∈ ch then payS l i else 0
theorem payL_len (l : List Bd) (ch : List Nat) : (payL l ch).length = l.length := by simp [payL]
theorem payL_get (l : List Bd) (ch : List Nat) {i : Nat} (h : i < l.length) : (payL l ch)[i]? = some (if i ∈ ch then payS l i else 0) := by
  rw [payL, List.getElem?_map, List.getElem?_range h]; rfl
theorem payL_set (l : List Bd) (ch : List Nat) {i : Nat} (h : i < l.length) : (payL l ch).set i (payS l i) = payL l (ch ++ [i]) := by
  apply List.ext_getElem?
  intro j
  rw [List.getElem?_set]
  by_cases hj : j < l.length
  · rw [payL_get _ _ hj, payL_get _ _ hj, payL_len]
    by_cases e : i = j
    · subst e; simp [h]
    · rw [if_neg e]
      have : j ∈ ch ++ [i] ↔ j ∈ ch := by simp; intro h; exact absurd h.symm e
      simp only [this]
  · rw [List.getElem?_eq_none (l := payL l ch) (by rw [payL_len]; omega), List.getElem?_eq_none (l := payL l (ch ++ [i])) (by rw [payL_len]; omega), payL_len]
    rw [if_neg (by omega)]
theorem payL_nil (l : List Bd) : List.replicate l.length 0 = payL l [] := by
  apply List.ext_getElem?
  intro j
  by_cases hj : j < l.length
  · rw [payL_get _ _ hj, List.getElem?_replicate, if_pos hj]; simp
  · rw [List.getElem?_eq_none (by rw [List.length_replicate]; omega), List.getElem?_eq_none (by rw [payL_len]; omega)]
theorem filter_valid {l : List Bd} {f : Bd → Bool} (hn : l.length ≤ 10) (hp : ∀ x ∈ l, 1 ≤ x.2.1 ∧ x.2.1 ≤ 1099511627776) : (l.filter f).length ≤ 10 ∧ ∀ i, 0 ≤ pr (l.filter f) i ∧ pr (l.filter f) i ≤ 1099511627776 := by
  refine ⟨Nat.le_trans (List.length_filter_le _ _) hn, fun i => ?_⟩
  unfold pr
  rw [List.getD_eq_getElem?_getD]
  cases e : (l.filter f)[i]? with
  | none => simp [bd0]
  | some x => have := hp x (List.mem_filter.1 (List.mem_of_getElem? e)).1; simp only [Option.getD_some]; omega
def pricesF (N : Int) (l : List Bd) : List Int × Int := if validS N l = 0 then (payL l (bestS l).1, 0) else ([], validS N l)

set_option maxHeartbeats 4000000 in
set_option maxRecDepth 100000 in
theorem cPrices_c (N : Int) (A : Option Addr) (n c : Nat) (l : List Bd) (w : World) (h : BidsAt w A n c l) (hN1 : -9223372036854775808 ≤ N) (hN2 : N ≤ 9223372036854775807) :
    Calls Try.prog 49 #[.int .i64 N, .slice A n c] w (RetOwnErr .i64 3 w (pricesF N l)) := by
  have HV := Lib.hid (valid_c N A n c l w h hN1 hN2)
  by_cases hv : validS N l = 0
  · obtain ⟨hl10, hpv, _, _⟩ := validS_ok hv
    have hl := h.len
    have hprv := pr_of_valid hv
    have hpp : ∀ x ∈ l, 1 ≤ x.2.1 ∧ x.2.1 ≤ 1099511627776 := fun x hx => (hpv x hx).2
    have hbr := bestS_range hl10 hprv
    have HBR := Lib.hid hbr.2.2
    have HPR := Lib.hid hprv
    have HW := Lib.hid (fun (bd : Int) => bestS_range (filter_valid (f := fun x => x.1 != bd) hl10 hpp).1 (filter_valid (f := fun x => x.1 != bd) hl10 hpp).2)
    have HFIN := Lib.hid (show pricesF N l = (payL l (bestS l).1, 0) by rw [pricesF, if_pos hv])
    have HB := Lib.hid (fun w1 (hE : E w w1) => best_c A n c l w1 (h.e hE) (by omega) hprv)
    have HWO := Lib.hid (fun (bd : Int) w1 (hE : E w w1) => without_c A n c l bd w1 (h.e hE) (by omega) hpp)
    rw [hv] at HV
    obtain ⟨hb1, hb2, _⟩ := hbr
    obtain ⟨bv, hbv⟩ : ∃ bv, (bestS l).2 = bv := ⟨_, rfl⟩
    rw [hbv] at hb1 hb2 HB
    have HBV := Lib.hid hbv
    clear hv hpv hprv hpp hbv
    go_enter Try.func49, Try.ntmps49
    go_wp2_with fail
    refine HV.out.mono ?_
    rintro e w1 ⟨rfl, hE1⟩
    go_wp2_with (at_make; refine wpList_mk intTk _ rfl _ _ rfl _ _ _ _ n rfl rfl rfl rfl (by omega) ?_; intro w2 hO2 hE2 hz2)
    refine (HB.out _ (hE1.trans hE2)).mono ?_
    rintro e w3 ⟨A3, n3, c3, rfl, hO3, hE3⟩
    have hE13 := hE1.trans hE2
    have hEw3 := hE13.trans hE3
    have hO2' := (hO2.e hE3).rebase hE1.le
    have hw1z := hE1.le
    have hw3z := hEw3.le
    obtain ⟨g, hg⟩ : ∃ g, w1.heap.size = g := ⟨_, rfl⟩
    rw [hg] at hO2' ⊢
    rw [show List.replicate n (0 : Int) = payL l [] by rw [← hl]; exact payL_nil l] at hO2'
    have HN3 := Lib.hid (show n3 = (bestS l).1.length by rw [← hO3.1, ints_len])
    have hC3 := hO3.reads
    have hn3m := hC3.n63
    have hgn : (w2.heap.size : Nat) ≥ g + 1 := by omega
    have hrow : ∀ b, ob A3 = some b → b ≠ g := fun b hb => by have := (hO3.ltN b hb).1; omega
    clear hE1 hE2 hE3 hE13 hO2 HV HB
    go_wp2_with fail
    go_loopw [28] (fun ti wr => ∃ k : Nat, k ≤ n3 ∧ ti = .int .i64 k ∧ Own .i64 3 wr w.heap.size (some ⟨g, 0, none⟩) n n (payL l ((bestS l).1.take k)) ∧ Nums .i64 wr A3 n3 c3 (ints (bestS l).1) ∧ E w wr) (fun ti _ => n3 - (intOf ti).toNat)
    case atStart => exact ⟨0, Nat.zero_le _, rfl, by simpa using hO2', hC3, hEw3⟩
    case round =>
      clear hO2' hC3 hEw3
      obtain ⟨k, hk, rfl, hO, hC, hE⟩ := hrel
      by_cases hlt : k < n3
      · obtain ⟨b3, o3, y, rfl, hb3, hy, hwy, hcy⟩ := hC.get hlt
        obtain ⟨ci, hci, rfl⟩ : ∃ ci : Nat, (bestS l).1[k]? = some ci ∧ (ci : Int) = y := by
          rw [ints, List.getElem?_map] at hy
          cases e : (bestS l).1[k]? with
          | none => rw [e] at hy; simp at hy
          | some ci => rw [e] at hy; exact ⟨ci, rfl, by simpa using hy⟩
        have hcn : ci < n := by have := HBR.out ci (List.mem_of_getElem? hci); omega
        obtain ⟨b, o, x, A1, n1, c1, rfl, hb, hx, hv1, hv2, hN, hcs⟩ := h.item hcn
        obtain ⟨hc1, hc2, _⟩ := hcs wr hE
        have hxg : l.getD ci bd0 = x := by rw [List.getD_eq_getElem?_getD, hx]; rfl
        have hpx : pr l ci = x.2.1 := by rw [pr, hxg]
        have hpr := HPR.out ci
        rw [hpx] at hpr
        have hW := HW.out x.1
        obtain ⟨wv, hwv⟩ : ∃ wv, (bestS (l.filter fun z => z.1 != x.1)).2 = wv := ⟨_, rfl⟩
        have HWC := Lib.hid (HWO.out x.1)
        rw [hwv] at hW HWC
        have hpay : payS l ci = wv - bv + x.2.1 := by rw [payS, hxg, hwv, HBV.out, hpx]
        have HSet := Lib.hid (show (payL l ((bestS l).1.take k)).set ci (wv - bv + x.2.1) = payL l ((bestS l).1.take (k + 1)) by
          rw [← hpay, payL_set l _ (by omega), List.take_add_one, hci]; rfl)
        obtain ⟨xo, hg0, hg1, _, hwo, hco, hfo⟩ := hO.getg (i := ci) hcn
        have hcI : (ci : Int) < (n : Int) := by omega
        obtain ⟨xb, xp, xl⟩ := x
        obtain ⟨hW1, hW2, _⟩ := hW
        simp only at *
        have hEd : E wr wr.drew := (E.refl wr).drew
        have hbw : b < w.heap.size := hb
        clear hx hxg hpx hpay hwv hcs hN hy hci hwy
        go_wp2_with fail
        go_region_held3 (fun w' => w.heap.size ≤ w'.heap.size ∧ ∀ b o, b < w.heap.size → w'.cell? ⟨b, o, none⟩ = wr.cell? ⟨b, o, none⟩) (first | exact ⟨hE.le, fun _ _ _ => rfl⟩ | exact sKeepK (by assumption) (by assumption) | exact sKeepS (by assumption) hg0 _)
          ((go_at_call 68; refine (HWC.out _ (hE.trans hEd)).mono ?_; rintro e w4 ⟨rfl, hE4⟩; obtain ⟨xo4, _, _, _, _, hco4, hfo4⟩ := (hO.e (hEd.trans hE4)).getg (i := ci) hcn))
        rename_i hHeld
        clear hHeld
        have hwr1 : IntKind.i64.wrap (wv - bv) = wv - bv := by rw [IntKind.wrap_i64]; omega
        have hwr2 : IntKind.i64.wrap (wv - bv + xp) = wv - bv + xp := by rw [IntKind.wrap_i64]; omega
        rw [hwr1, hwr2]
        have hE05 := hEd.trans hE4
        have hO5 := ((hO.e hE05).set ci (wv - bv + xp) (wf_of_i64 (by omega) (by omega))).cast HSet.out
        have hC5 := (hC.e hE05).ex (X := fun i => i = g) (w' := w4.setCell ⟨g, ci, none⟩ (.int .i64 (wv - bv + xp))) ((Ex.refl (fun i => i = g) w4).setCell ⟨g, ci, none⟩ (.inr rfl) _) (fun b hb e => hrow b hb e)
        have hE5 := (hE.trans hE05).setCell (p := ⟨g, ci, none⟩) hg0 (.int .i64 (wv - bv + xp))
        clear hwr1 hwr2 hco4 hfo4 hE4 hO hC hE
        generalize w4.setCell ⟨g, ci, none⟩ (.int .i64 (wv - bv + xp)) = w5 at *
        go_wp2_with fail
        go_roundw
        case rel => exact ⟨k + 1, by omega, by go_num, hO5, hC5, hE5⟩
        case measure => simp [intOf]; omega
      · have HT := Lib.hid (show payL l ((bestS l).1.take k) = payL l (bestS l).1 by rw [List.take_of_length_le (by have := HN3.out; omega)])
        go_wp2_with fail
        go_ret2
        exact RetOwnErr.mk_ (by rw [HFIN.out, HT.out]) hO hE
  · have HFIN := Lib.hid (show pricesF N l = ([], validS N l) by rw [pricesF, if_neg hv])
    have hne : (validS N l != 0) = true := by simpa using hv
    generalize validS N l = v at *
    clear h
    go_enter Try.func49, Try.ntmps49
    go_wp2_with fail
    refine HV.out.mono ?_
    rintro e w1 ⟨rfl, hE1⟩
    go_wp2_with fail
    go_ret2
    exact RetOwnErr.mk_ HFIN.out (Own.nil _ _ _ _) hE1
end Go.Proofs.Ytpbkfpkgbfifaaa
