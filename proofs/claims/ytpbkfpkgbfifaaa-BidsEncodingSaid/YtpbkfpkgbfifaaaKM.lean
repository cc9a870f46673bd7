/- without, Without; given. -/
import Derived.Test.YtpbkfpkgbfifaaaKL
namespace Go.Proofs.Ytpbkfpkgbfifaaa
open Go.RowKit

/-- a bid of the list, as it lies in memory: what an append of it asks -/
theorem BidsAt.item {w : World} {A : Option Addr} {n c : Nat} {l : List Bd} (h : BidsAt w A n c l) {i : Nat} (hi : i < n) :
    ∃ b o x A' n' c', A = some ⟨b, o, none⟩ ∧ b < w.heap.size ∧ l[i]? = some x ∧ (Lit.int .i64 x.1).wf = true ∧ (Lit.int .i64 x.2.1).wf = true ∧ Nums .i64 w A' n' c' x.2.2 ∧
      ∀ wr, E w wr → wr.cell? ⟨b, o + i * 3, none⟩ = some (.int .i64 x.1) ∧ wr.cell? ⟨b, o + i * 3 + 1, none⟩ = some (.int .i64 x.2.1) ∧ wr.cell? ⟨b, o + i * 3 + 2, none⟩ = some (.slice A' n' c') := by
  obtain ⟨b, o, x, A', n', c', e, hb, hx, h1, h2, h3, h4, h5, h6⟩ := h.get hi
  exact ⟨b, o, x, A', n', c', e, hb, hx, h1, h2, h6, fun wr hE => ⟨by rw [hE.cell (p := ⟨b, _, none⟩) hb]; exact h3, by rw [hE.cell (p := ⟨b, _, none⟩) hb]; exact h4, by rw [hE.cell (p := ⟨b, _, none⟩) hb]; exact h5⟩⟩
theorem below_ne {k : IntKind} {w : World} {A : Option Addr} {n c : Nat} {l : List Int} (h : Nums k w A n c l) {T : TypeId} {wr : World} {A' : Option Addr} {n' c' : Nat} {q : List (Bd × Sl)} (hR : BRow T wr w.heap.size A' n' c' q) : 0 < n → ob A ≠ ob A' := fun h0 e => by
  obtain ⟨b, o, e1, hb, _⟩ := h.at_ h0
  rw [e1] at e
  have := (hR.ltN b (by rw [← e]; rfl)).1
  omega

set_option maxHeartbeats 2000000 in
set_option maxRecDepth 100000 in
theorem without_c (A : Option Addr) (n c : Nat) (l : List Bd) (bd : Int) (w : World) (h : BidsAt w A n c l) (hn : n ≤ 10) (hp : ∀ x ∈ l, 1 ≤ x.2.1 ∧ x.2.1 ≤ 1099511627776) :
    Calls Try.prog 68 #[.slice A n c, .int .i64 bd] w fun e w' => e = .returned (.int .i64 (bestS (l.filter fun x => x.1 != bd)).2) ∧ E w w' := by
  have hl := h.len
  obtain ⟨fin, hfin⟩ : ∃ fin, (bestS (l.filter fun x => x.1 != bd)).2 = fin := ⟨_, rfl⟩
  rw [hfin]
  have HFIN := Lib.hid hfin
  have HP := Lib.hid hp
  clear hfin hp
  go_enter Try.func68, Try.ntmps68
  go_wp2_with fail
  go_loopw [5, 12] (fun t5 ti wr => ∃ (k n' c' : Nat) (A' : Option Addr) (q : List (Bd × Sl)), k ≤ n ∧ ti = .int .i64 k ∧ t5 = .slice A' n' c' ∧ n' ≤ k ∧ BRow 50 wr w.heap.size A' n' c' q ∧ E w wr ∧ Hid (q.map Prod.fst = (l.take k).filter fun x => x.1 != bd)) (fun _ ti _ => n - (intOf ti).toNat)
  case atStart => exact ⟨0, 0, 0, none, [], Nat.zero_le _, rfl, rfl, Nat.le_refl _, BRow.nil _ _ _, E.refl _, rfl⟩
  case round =>
    obtain ⟨k, n', c', A', q, hk, rfl, rfl, hn', hR, hE, hq⟩ := hrel
    by_cases hlt : k < n
    · obtain ⟨b, o, x, A1, n1, c1, rfl, hb, hx, hv1, hv2, hN, hcs⟩ := h.item hlt
      obtain ⟨hc1, hc2, hc3⟩ := hcs wr hE
      have HX := Lib.hid (show l.take (k + 1) = l.take k ++ [x] by rw [List.take_add_one, hx]; rfl)
      have hbr : b < wr.heap.size := Nat.lt_of_lt_of_le hb hE.le
      clear hx hcs
      by_cases he : x.1 = bd
      · have hd : (x.1 != bd) = false := by simp [he]
        have HE := Lib.hid hd
        go_wp2_with fail
        go_roundw
        case rel => exact ⟨k + 1, n', c', A', q, by omega, by go_num, rfl, by omega, hR.e ((E.refl _).alloc _), hE.alloc _, show _ = _ by rw [HX.out, List.filter_append, hq.out]; simp [HE.out]⟩
        case measure => simp [intOf]; omega
      · have hd : (x.1 != bd) = true := by simpa using he
        have HE := Lib.hid hd
        obtain ⟨w2, hw2⟩ : ∃ w2, wr.alloc (.cells #[.int .i64 x.1, .int .i64 x.2.1, .slice A1 n1 c1] 50) = w2 := ⟨_, rfl⟩
        have hE12 : E wr w2 := by rw [← hw2]; exact (E.refl wr).alloc _
        have hnew : w2.heap[wr.heap.size]? = some (.cells #[.int .i64 x.1, .int .i64 x.2.1, .slice A1 n1 c1] 50 (0, 0)) := by rw [← hw2]; exact heap_alloc_new _ _
        have d0 : w2.cell? ⟨wr.heap.size, 0, none⟩ = some (.int .i64 x.1) := cell_of_row _ _ 0 _ _ _ hnew
        have d1 : w2.cell? ⟨wr.heap.size, 1, none⟩ = some (.int .i64 x.2.1) := cell_of_row _ _ 1 _ _ _ hnew
        have d2 : w2.cell? ⟨wr.heap.size, 2, none⟩ = some (.slice A1 n1 c1) := cell_of_row _ _ 2 _ _ _ hnew
        have hR2 := hR.e hE12
        have hE2 := hE.trans hE12
        have hN2 := (hN.e hE).e hE12
        have hle2 := hE2.le
        have hbn := below_ne hN hR2
        have HW2 := Lib.hid hw2
        clear hw2 hnew
        go_upto_region 6 with fail
        rw [HW2.out]
        clear HW2
        go_wp2_with (at_builtin; refine wpList_appBd bidT _ rfl _ _ rfl _ _ _ _ _ rfl hR2 (x, A1, n1, c1) rfl ⟨hv1, hv2, hN2, hbn⟩ (by omega) hle2 ?_; intro g' c2 w3 hR3 hG3 hB3 hor3)
        go_roundw
        case rel => exact ⟨k + 1, n' + 1, c2, some ⟨g', 0, none⟩, q ++ [(x, A1, n1, c1)], by omega, by go_num, rfl, by omega, hR3, hE2.up hB3, show _ = _ by rw [HX.out, List.filter_append, List.map_append, hq.out]; simp [HE.out]⟩
        case measure => simp [intOf]; omega
    · have hq' : q.map Prod.fst = l.filter fun x => x.1 != bd := by rw [hq.out, List.take_of_length_le (by omega)]
      have hB := hR.bids
      rw [hq'] at hB
      have HB := Lib.hid (best_c A' n' c' _ wr hB (by omega) (fun i => by
        unfold pr
        rw [List.getD_eq_getElem?_getD]
        cases e : (l.filter fun x => x.1 != bd)[i]? with
        | none => simp [bd0]
        | some x => have := HP.out x (List.mem_filter.1 (List.mem_of_getElem? e)).1; simp only [Option.getD_some]; omega))
      rw [HFIN.out] at HB
      clear hR hB hq' hq
      go_wp2_with fail
      refine HB.out.mono ?_
      rintro e w4 ⟨A4, n4, c4, rfl, _, hE4⟩
      go_wp2_with fail
      go_ret
      exact ⟨rfl, hE.trans hE4⟩
end Go.Proofs.Ytpbkfpkgbfifaaa
