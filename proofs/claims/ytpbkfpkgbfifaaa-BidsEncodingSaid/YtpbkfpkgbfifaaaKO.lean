/- Bound. -/
import Derived.Test.YtpbkfpkgbfifaaaKN
namespace Go.Proofs.Ytpbkfpkgbfifaaa
open Go.RowKit

/-- block b is a map from numbers to numbers that reads as f -/
def MapI (w : World) (b n : Nat) (f : Int → Int) : Prop :=
  ∃ D : DataW Unit, w.ownsMap Try.prog 3 (plainElem Try.prog 3) b n D ∧ Maps.IsMap D ∧ ∀ x, D.atKey (.int .i64 x) (.lit (.int .i64 0)) = .lit (.int .i64 (f x))
theorem MapI.made (w : World) : MapI (w.alloc (.map #[] 0)) w.heap.size 0 (fun _ => 0) := ⟨_, World.ownsMap_made _ _ _ _, Maps.isMap_empty, fun _ => rfl⟩
theorem MapI.lt {w : World} {b n : Nat} {f : Int → Int} (h : MapI w b n f) : b < w.heap.size := by obtain ⟨D, h1, _⟩ := h; exact h1.lt
theorem MapI.block {w w' : World} {b n : Nat} {f : Int → Int} (h : MapI w b n f) (hb : w'.heap[b]? = w.heap[b]?) : MapI w' b n f := by
  obtain ⟨D, ⟨es, clock, h1, h2⟩, h3⟩ := h
  exact ⟨D, ⟨es, clock, hb.trans h1, h2⟩, h3⟩
theorem MapI.e {w w' : World} {b n : Nat} {f : Int → Int} (h : MapI w b n f) (hE : E w w') : MapI w' b n f := h.block (hE.block h.lt)
theorem MapI.look {w : World} {b n : Nat} {f : Int → Int} (h : MapI w b n f) {x : Int} (hx : (Lit.int .i64 x).wf = true) : (Instr.lookup 113 (.map (some b)) (.int .i64 x) false).run Try.prog w = .ok (.int .i64 (f x)) w := by
  obtain ⟨D, h1, h2, h3⟩ := h
  obtain ⟨c, hrun, hat, _⟩ := h1.lookup_int (Maps.int_keyed Try.underlying3) Try.underlying113 Try.underlying3 (Try.zeroValue3 _) (Maps.keyOf_int_mk Try.underlying3 hx)
  have e : f x = c := by
    rw [h3] at hat
    simpa using hat
  rw [hrun, e]
theorem MapI.put {w : World} {b n : Nat} {f : Int → Int} (h : MapI w b n f) {x v : Int} (hx : (Lit.int .i64 x).wf = true) (hv : (Lit.int .i64 v).wf = true) (hn : n < maxLen) : ∃ w', (Instr.mapUpdate 113 (.map (some b)) (.int .i64 x) (.int .i64 v)).run Try.prog w = .ok () w' ∧ MapI w' b (n + 1) (fun y => if y = x then v else f y) ∧ w.grownBy w' (some b) := by
  obtain ⟨D, h1, h2, h3⟩ := h
  obtain ⟨w', r1, r2, r3⟩ := h1.update (Maps.int_keyed Try.underlying3) Try.underlying113 hn (Maps.keyOf_int_mk Try.underlying3 hx) (plainElem_int Try.underlying3 hv)
  refine ⟨w', r1, ⟨_, r2, h2.put _ _, fun y => ?_⟩, r3⟩
  by_cases e : y = x
  · subst e; rw [Maps.atKey_put_same h2 (by trivial)]; simp
  · rw [Maps.atKey_put_other (by intro e'; injection e' with _ e'; exact e e'), h3]; simp [e]

def lsum (ps : List Int) : List Int → Int
  | [] => 0
  | t :: r => ps.getD t.toNat 0 + lsum ps r
def ownS (ps : List Int) (x : Bd) : Int := x.2.1 - lsum ps x.2.2
def bstep (ps : List Int) (st : (Int → Int) × Int) (x : Bd) : (Int → Int) × Int := if 0 < ownS ps x - st.1 x.1 then (fun y => if y = x.1 then ownS ps x else st.1 y, st.2 + (ownS ps x - st.1 x.1)) else st
def boundS (ps : List Int) (l : List Bd) : Int := (l.foldl (bstep ps) (fun _ => 0, ps.sum)).2
def boundF (N : Int) (l : List Bd) (ps : List Int) : Int × Int := if validS N l = 0 then (if (ps.length : Int) = N then (if ps.all okU then (boundS ps l, 0) else (0, 1)) else (0, 1)) else (0, validS N l)
theorem lotsOk_mem : ∀ {n last : Int} {ls : List Int}, lotsOk n last ls = true → ∀ t ∈ ls, last < t ∧ t < n
  | _, _, [], _, _, ht => by simp at ht
  | n, last, x :: r, h, t, ht => by
    simp only [lotsOk, Bool.and_eq_true, decide_eq_true_eq] at h
    rcases List.mem_cons.1 ht with e | ht
    · subst e; exact h.1
    · have := lotsOk_mem h.2 t ht; omega
theorem lotsOk_len : ∀ {n last : Int} {ls : List Int}, lotsOk n last ls = true → last < n → (ls.length : Int) ≤ n - 1 - last
  | _, _, [], _, _ => by simp; omega
  | n, last, x :: r, h, hl => by
    simp only [lotsOk, Bool.and_eq_true, decide_eq_true_eq] at h
    have := lotsOk_len h.2 h.1.2
    simp only [List.length_cons]; omega
theorem lsum_range {ps : List Int} (hp : ∀ x ∈ ps, 0 ≤ x ∧ x ≤ 1099511627776) : ∀ ls : List Int, 0 ≤ lsum ps ls ∧ lsum ps ls ≤ ls.length * 1099511627776
  | [] => by simp [lsum]
  | t :: r => by
    have h := lsum_range hp r
    have h2 : 0 ≤ ps.getD t.toNat 0 ∧ ps.getD t.toNat 0 ≤ 1099511627776 := by
      rw [List.getD_eq_getElem?_getD]
      cases e : ps[t.toNat]? with
      | none => simp
      | some y => exact hp y (List.mem_of_getElem? e)
    simp only [lsum, List.length_cons]; omega
theorem lsum_app (ps : List Int) (a b : List Int) : lsum ps (a ++ b) = lsum ps a + lsum ps b := by
  induction a with
  | nil => simp [lsum]
  | cons t a ih => simp only [List.cons_append, lsum, ih]; omega
theorem sum_range {ps : List Int} (hp : ∀ x ∈ ps, 0 ≤ x ∧ x ≤ 1099511627776) : 0 ≤ ps.sum ∧ ps.sum ≤ ps.length * 1099511627776 := by
  induction ps with
  | nil => simp
  | cons t r ih =>
    have h := ih (fun x hx => hp x (List.mem_cons_of_mem _ hx))
    have h2 := hp t List.mem_cons_self
    simp only [List.sum_cons, List.length_cons]; omega

set_option maxHeartbeats 4000000 in
set_option maxRecDepth 100000 in
theorem cBound_c (N : Int) (A : Option Addr) (n c : Nat) (l : List Bd) (Ap : Option Addr) (np cp : Nat) (ps : List Int) (w : World) (h : BidsAt w A n c l) (hps : Nums .i64 w Ap np cp ps) (hN1 : -9223372036854775808 ≤ N) (hN2 : N ≤ 9223372036854775807) :
    Calls Try.prog 69 #[.int .i64 N, .slice A n c, .slice Ap np cp] w fun e w' => e = .returned (.tuple #[.int .i64 (boundF N l ps).1, .int .i64 (boundF N l ps).2]) ∧ E w w' := by
  have HV := Lib.hid (valid_c N A n c l w h hN1 hN2)
  have hnm := hps.n63
  by_cases hv : validS N l = 0
  · by_cases hlen : (np : Int) = N
    · have hle := hps.len
      obtain ⟨hl10, hpv, hNa, hNb⟩ := validS_ok hv
      have HV0 := Lib.hid hv
      rw [hv] at HV
      have HF := Lib.hid (show boundF N l ps = if ps.all okU then (boundS ps l, 0) else (0, 1) by rw [boundF, if_pos hv, if_pos (by omega)])
      obtain ⟨fin, hfin⟩ : ∃ fin, boundF N l ps = fin := ⟨_, rfl⟩
      rw [hfin] at HF
      rw [hfin]
      clear hfin hv
      have hd : ((np : Int) != N) = false := by simp [hlen]
      go_enter Try.func69, Try.ntmps69
      go_wp2_with fail
      refine HV.out.mono ?_
      rintro e w1 ⟨rfl, hE1⟩
      go_wp2_with fail
      go_loopw [9, 31] (fun tb ti wr => ∃ k : Nat, k ≤ np ∧ ti = .int .i64 k ∧ tb = .int .i64 (ps.take k).sum ∧ wr = w1 ∧ Hid (∀ x ∈ ps.take k, 0 ≤ x ∧ x ≤ 1099511627776)) (fun _ ti _ => np - (intOf ti).toNat)
      case atStart => exact ⟨0, Nat.zero_le _, rfl, rfl, rfl, by intro x hx; simp at hx⟩
      case round =>
        obtain ⟨k, hk, rfl, rfl, rfl, hall⟩ := hrel
        by_cases hlt : k < np
        · obtain ⟨bp, op, y, rfl, hbp, hy, hwy, hcy⟩ := (hps.e hE1).get hlt
          have hyr := wf_i64 hwy
          have hsr := sum_range hall.out
          have hkl : (ps.take k).length = k := by rw [List.length_take]; omega
          rw [hkl] at hsr
          have HT := Lib.hid (show ps.take (k + 1) = ps.take k ++ [y] by rw [List.take_add_one, hy]; rfl)
          obtain ⟨sm0, hsm0⟩ : ∃ s, (ps.take k).sum = s := ⟨_, rfl⟩
          rw [hsm0] at hsr ⊢
          have HS := Lib.hid hsm0
          have HY := Lib.hid hy
          clear hsm0 hy hkl
          by_cases f1 : y < 0
          · have HR := Lib.hid (show fin = (0, 1) by
              have : ps.all okU = false := by rw [List.all_eq_false]; exact ⟨y, List.mem_of_getElem? HY.out, by simp [okU_neg f1]⟩
              rw [HF.out, this]; rfl)
            go_wp2_with fail
            go_ret2
            exact ⟨ret_two (by rw [HR.out]) (by rw [HR.out]), hE1⟩
          by_cases f2 : 1099511627776 < y
          · have HR := Lib.hid (show fin = (0, 1) by
              have : ps.all okU = false := by rw [List.all_eq_false]; exact ⟨y, List.mem_of_getElem? HY.out, by simp [okU_big f2]⟩
              rw [HF.out, this]; rfl)
            go_wp2_with fail
            go_ret2
            exact ⟨ret_two (by rw [HR.out]) (by rw [HR.out]), hE1⟩
          · go_wp2_with fail
            go_roundw
            case rel => exact ⟨k + 1, by omega, by go_num, by rw [HT.out, List.sum_append, HS.out]; simp, by first | trivial | rfl, by
              intro x hx
              rw [HT.out] at hx
              rcases List.mem_append.1 hx with hx | hx
              · exact hall.out x hx
              · rw [List.mem_singleton] at hx; omega⟩
            case measure => simp [intOf]; omega
        · have htk : ps.take k = ps := List.take_of_length_le (by omega)
          rw [htk] at hall ⊢
          have hsr := sum_range hall.out
          have HR := Lib.hid (show fin = (boundS ps l, 0) by
            have : ps.all okU = true := by rw [List.all_eq_true]; intro x hx; exact okU_iff.2 (hall.out x hx)
            rw [HF.out, this]; rfl)
          obtain ⟨s0, hs0⟩ : ∃ s, ps.sum = s := ⟨_, rfl⟩
          rw [hs0] at hsr ⊢
          have HS := Lib.hid hs0
          clear hs0 htk HF
          have hmm := @run_makeMap Try.prog
          have hbw : s0 ≤ 8796093022208 := by omega
          have HPS := Lib.hid hall.out
          clear hall
          go_wp2_with fail
          have hM0 := MapI.made wr
          have hE2 := hE1.alloc (.map #[] 0)
          obtain ⟨Bk, hBk⟩ : ∃ Bk, wr.heap.size = Bk := ⟨_, rfl⟩
          rw [hBk] at hM0 ⊢
          have hwB : w.heap.size ≤ Bk := by have := hE1.le; omega
          generalize wr.alloc (.map #[] 0) = w2 at *
          go_loopw [9, 48] (fun tb ti wq => ∃ (k m : Nat) (f : Int → Int) (s : Int), k ≤ n ∧ ti = .int .i64 k ∧ tb = .int .i64 s ∧ MapI wq Bk m f ∧ m ≤ k ∧ E w wq ∧ Hid ((l.take k).foldl (bstep ps) (fun _ => 0, s0) = (f, s)) ∧ Hid (∀ x, 0 ≤ f x ∧ f x ≤ 1099511627776) ∧ 0 ≤ s ∧ s ≤ 8796093022208 + k * 1099511627776) (fun _ ti _ => n - (intOf ti).toNat)
          case atStart => exact ⟨0, 0, fun _ => 0, s0, Nat.zero_le _, rfl, rfl, hM0, Nat.le_refl _, hE2, rfl, fun _ => ⟨Int.le_refl _, (by decide : (0 : Int) ≤ 1099511627776)⟩, by omega, by omega⟩
          case round =>
            clear hM0 hE2 hmm
            obtain ⟨k, m, f, s, hk, rfl, rfl, hM, hmk, hE, hfo, hfr, hs1, hs2⟩ := hrel
            have hln := h.len
            by_cases hlt : k < n
            · obtain ⟨b, o, x, A1, n1, c1, rfl, hb, hx, hv1, hv2, hN, hcs⟩ := h.item hlt
              obtain ⟨hc1, hc2, hc3⟩ := hcs wr hE
              have hbe := bidE_ok (validF_ok (show validF N l = 0 by
                have := HV0.out
                rw [validS, if_neg (by omega), if_neg (by omega)] at this
                exact this) x (List.mem_of_getElem? hx))
              have hll := lotsOk_len hbe.2.2.2 (by omega)
              have HLM := Lib.hid (lotsOk_mem hbe.2.2.2)
              have hpx1 := hbe.2.1
              have hpx2 := hbe.2.2.1
              have hnl := hN.len
              have HX := Lib.hid (show l.take (k + 1) = l.take k ++ [x] by rw [List.take_add_one, hx]; rfl)
              clear hx hcs hbe
              obtain ⟨xb, xp, xl⟩ := x
              simp only at *
              obtain ⟨w3, hw3⟩ : ∃ w3, wr.alloc (.cells #[.int .i64 xb, .int .i64 xp, .slice A1 n1 c1] 50) = w3 := ⟨_, rfl⟩
              have hE13 : E wr w3 := by rw [← hw3]; exact (E.refl wr).alloc _
              have hnew : w3.heap[wr.heap.size]? = some (.cells #[.int .i64 xb, .int .i64 xp, .slice A1 n1 c1] 50 (0, 0)) := by rw [← hw3]; exact heap_alloc_new _ _
              have d0 : w3.cell? ⟨wr.heap.size, 0, none⟩ = some (.int .i64 xb) := cell_of_row _ _ 0 _ _ _ hnew
              have hM3 := hM.e hE13
              have hE3 := hE.trans hE13
              have hN3 := hN.e hE3
              have hps3 := hps.e hE3
              have HW3 := Lib.hid hw3
              have hbr : b < wr.heap.size := Nat.lt_of_lt_of_le hb hE.le
              clear hw3 hnew hM
              go_wp2_with fail
              rw [HW3.out]
              clear HW3 hc1 hc2 hc3
              go_loopw [15, 57] (fun tw ti wq => ∃ j : Nat, j ≤ n1 ∧ ti = .int .i64 j ∧ tw = .int .i64 (xp - lsum ps (xl.take j)) ∧ wq = w3) (fun _ ti _ => n1 - (intOf ti).toNat)
              case atStart => exact ⟨0, Nat.zero_le _, rfl, by simp [lsum], rfl⟩
              case round =>
                obtain ⟨j, hj, rfl, rfl, rfl⟩ := hrel
                have hlr := lsum_range HPS.out (xl.take j)
                have hjl : (xl.take j).length = j := by rw [List.length_take]; omega
                rw [hjl] at hlr
                by_cases hjn : j < n1
                · obtain ⟨b4, o4, t, rfl, hb4, ht, hwt, hct⟩ := hN3.get hjn
                  have htr := HLM.out t (List.mem_of_getElem? ht)
                  obtain ⟨tn, rfl⟩ : ∃ tn : Nat, t = tn := ⟨t.toNat, by omega⟩
                  obtain ⟨b5, o5, y, rfl, hb5, hy, hwy, hcy⟩ := hps3.get (i := tn) (by omega)
                  have hyr := HPS.out y (List.mem_of_getElem? hy)
                  have HL := Lib.hid (show lsum ps (xl.take (j + 1)) = lsum ps (xl.take j) + y by
                    rw [List.take_add_one, ht, lsum_app]
                    simp [lsum, List.getD_eq_getElem?_getD, hy])
                  generalize lsum ps (xl.take j) = q at *
                  clear ht hwt hy hwy hjl
                  have htI : (tn : Int) < (np : Int) := by omega
                  go_wp2_with fail
                  go_roundw
                  case rel => exact ⟨j + 1, by omega, by go_num, by rw [HL.out]; first | rfl | (congr 1; omega), by first | trivial | rfl⟩
                  case measure => simp [intOf]; omega
                · have htk : xl.take j = xl := List.take_of_length_le (by omega)
                  have hown : ownS ps (xb, xp, xl) = xp - lsum ps xl := rfl
                  rw [htk] at hlr ⊢
                  rw [← hown]
                  rw [show lsum ps xl = xp - ownS ps (xb, xp, xl) by rw [hown]; omega] at hlr
                  have hfx := hfr.out xb
                  have hlook := hM3.look hv1
                  have HST := Lib.hid (show bstep ps (f, s) (xb, xp, xl) = if 0 < ownS ps (xb, xp, xl) - f xb then (fun y => if y = xb then ownS ps (xb, xp, xl) else f y, s + (ownS ps (xb, xp, xl) - f xb)) else (f, s) from rfl)
                  have HFO := Lib.hid (show (l.take (k + 1)).foldl (bstep ps) (fun _ => 0, s0) = bstep ps (f, s) (xb, xp, xl) by rw [HX.out, List.foldl_append, hfo.out]; rfl)
                  obtain ⟨ow, how⟩ : ∃ ow, ownS ps (xb, xp, xl) = ow := ⟨_, rfl⟩
                  obtain ⟨fx, hfxe⟩ : ∃ fx, f xb = fx := ⟨_, rfl⟩
                  rw [how] at hlr HST ⊢
                  rw [hfxe] at hfx hlook HST
                  clear how hown htk hfo
                  by_cases hmo : 0 < ow - fx
                  · obtain ⟨w5, hrun, hM5, hG5⟩ := hM3.put (x := xb) (v := ow) hv1 (wf_of_i64 (by omega) (by omega)) (by unfold maxLen; omega)
                    have hE5 : E w w5 := hE3.grown hG5 (fun i hi => by injection hi with hi; omega)
                    have HFR := Lib.hid (show ∀ z, 0 ≤ (if z = xb then ow else f z) ∧ (if z = xb then ow else f z) ≤ 1099511627776 from fun z => by
                      split
                      · omega
                      · exact hfr.out z)
                    clear hM3 hG5 hfr
                    go_wp2_with fail
                    exact ⟨⟨k + 1, m + 1, _, s + (ow - fx), by omega, by go_num, rfl, hM5, by omega, hE5, show _ = _ by rw [HFO.out, HST.out, if_pos hmo], HFR.out, by omega, by omega⟩, by simp [intOf]; omega⟩
                  · have hE3' := hE3
                    go_wp2_with fail
                    first
                      | exact ⟨⟨k + 1, m, f, s, by omega, by go_num, rfl, hM3, by omega, hE3, show _ = _ by rw [HFO.out, HST.out, if_neg hmo], hfr.out, by omega, by omega⟩, by simp [intOf]; omega⟩
                      | (go_roundw
                         case rel => exact ⟨k + 1, m, f, s, by omega, by go_num, rfl, hM3, by omega, hE3, show _ = _ by rw [HFO.out, HST.out, if_neg hmo], hfr.out, by omega, by omega⟩
                         case measure => simp [intOf]; omega)
            · have HQ := Lib.hid (show boundS ps l = s by rw [boundS, HS.out, ← List.take_of_length_le (l := l) (i := k) (by omega), hfo.out])
              go_wp2_with fail
              go_ret2
              exact ⟨ret_two (by rw [HR.out, HQ.out]) (by rw [HR.out]), hE⟩
    · have HF := Lib.hid (show boundF N l ps = (0, 1) by rw [boundF, if_pos hv, if_neg (by rw [hps.len]; exact hlen)])
      rw [hv] at HV
      have hd : ((np : Int) != N) = true := by simpa using hlen
      go_enter Try.func69, Try.ntmps69
      go_wp2_with fail
      refine HV.out.mono ?_
      rintro e w1 ⟨rfl, hE1⟩
      go_wp2_with fail
      go_ret2
      exact ⟨ret_two (by rw [HF.out]) (by rw [HF.out]), hE1⟩
  · have HF := Lib.hid (show boundF N l ps = (0, validS N l) by rw [boundF, if_neg hv])
    have hne : (validS N l != 0) = true := by simpa using hv
    generalize validS N l = v at *
    go_enter Try.func69, Try.ntmps69
    go_wp2_with fail
    refine HV.out.mono ?_
    rintro e w1 ⟨rfl, hE1⟩
    go_wp2_with fail
    go_ret2
    exact ⟨ret_two (by rw [HF.out]) (by rw [HF.out]), hE1⟩
end Go.Proofs.Ytpbkfpkgbfifaaa
