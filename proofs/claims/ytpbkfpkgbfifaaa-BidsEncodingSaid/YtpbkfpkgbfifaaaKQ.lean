/- given: bids of the package. -/
import Derived.Test.YtpbkfpkgbfifaaaKP
namespace Go.Proofs.Ytpbkfpkgbfifaaa
open Go.RowKit

theorem step_appBd {P : Program} {S T : TypeId} (it : BidT P S T) {W : World} {ops : Array Oper} {o : Oper} {a : Act} {K : Act → World → Prop} {Q : Exit → Act → World → Prop} {R : Prop} (hgd : o.guard = none) (s x : Operand)
    (ho : o.op = .call { callee := .builtin .append, args := #[s, x], argTypes := #[S, S] })
    (base : Nat) (A : Option Addr) (n c : Nat) (q : List (Bd × Sl)) (hs : a.eval s = .slice A n c) (hown : BRow T W base A n c q) (g : Nat)
    (p : Bd × Sl) (hx : a.eval x = .slice (some ⟨g, 0, none⟩) 1 1) (hc : W.cell? ⟨g, 0, none⟩ = some (.int .i64 p.1.1) ∧ W.cell? ⟨g, 1, none⟩ = some (.int .i64 p.1.2.1) ∧ W.cell? ⟨g, 2, none⟩ = some (.slice p.2.1 p.2.2.1 p.2.2.2))
    (hp : (Lit.int .i64 p.1.1).wf = true ∧ (Lit.int .i64 p.1.2.1).wf = true ∧ Nums .i64 W p.2.1 p.2.2.1 p.2.2.2 p.1.2.2 ∧ (0 < p.2.2.1 → ob p.2.1 ≠ ob A))
    (hlen : n ≤ 1000000) (hbase : base ≤ W.heap.size)
    (h : ∀ g' c' w', BRow T w' base (some ⟨g', 0, none⟩) (n + 1) c' (q ++ [p]) → Below base W w' → K (a.put o.dst (.slice (some ⟨g', 0, none⟩) (n + 1) c')) w') :
    if Region.wanted o (yielded ops a.tmps) = true then Oper.wp P o a W K Q else R := by
  have hw : Region.wanted o (yielded ops a.tmps) = true := by simp [Region.wanted, hgd]
  rw [if_pos hw]
  obtain ⟨i, hi, hz0, hz1, hz2⟩ := info_parts it.info
  obtain ⟨v', w', hrun, h2, h3, h4, h5⟩ := run_append_own_at (P := P) W base S o.type T i _ 3 40 it.und hi hz0 hz1 hz2 rfl (by decide) _ n _ hown.2.1 ⟨g, 0, none⟩ 1 1 [.int .i64 p.1.1, .int .i64 p.1.2.1, .slice p.2.1 p.2.2.1 p.2.2.2] rfl
    (by intro j u hu
        rw [add_plain]
        match j with
        | 0 => simp at hu; subst hu; exact hc.1
        | 1 => simp at hu; subst hu; exact hc.2.1
        | 2 => simp at hu; subst hu; exact hc.2.2
        | j + 3 => simp at hu)
    (by intro u hu; simp at hu; rcases hu with rfl | rfl | rfl <;> rfl) (by unfold maxLen; omega) (by omega) hbase
  unfold Oper.wp execOp
  simp only [ho, resolve, invoke, builtin, Sem.run_bind, Sem.run_pure, Result.andThen_ok, List.map_toArray, List.map_cons, List.map_nil, hs, hx, hrun]
  have hfl : flat3 q ++ [.int .i64 p.1.1, .int .i64 p.1.2.1, .slice p.2.1 p.2.2.1 p.2.2.2] = flat3 (q ++ [p]) := by rw [flat3_app]; rfl
  rw [hfl] at h2
  rw [ob_eq] at h3
  rcases h2.2 with ⟨_, h0⟩ | ⟨g', c', cur, rfl, _⟩
  · omega
  · have hor' : ob A = some g' ∨ W.heap.size ≤ g' := by
      rcases h5 with h | h
      · left; rw [← ob_eq A n c, ← h]; rfl
      · right; simp [Value.ownBlock] at h; omega
    have key : ∀ r : Bd × Sl, Nums .i64 W r.2.1 r.2.2.1 r.2.2.2 r.1.2.2 → (0 < r.2.2.1 → ob r.2.1 ≠ ob A) → Nums .i64 w' r.2.1 r.2.2.1 r.2.2.2 r.1.2.2 ∧ (0 < r.2.2.1 → ob r.2.1 ≠ ob (some (⟨g', 0, none⟩ : Addr))) := fun r hr hne => by
      refine ⟨hr.grown h3 hne, fun h0 e => ?_⟩
      obtain ⟨b, o', e1, hb, _⟩ := hr.at_ h0
      have hne' := hne h0
      rw [e1] at e hne'
      have : b = g' := by simpa [ob] using e
      subst this
      rcases hor' with h | h
      · exact hne' (by rw [h]; rfl)
      · omega
    refine h g' c' w' ⟨by simp [hown.1], h2, fun r hr => ?_⟩ ((Below.refl base W).grown h3 hbase (fun k hk => (hown.ltN k hk).1))
    rcases List.mem_append.1 hr with hr | hr
    · obtain ⟨a1, a2, a3, a4⟩ := hown.2.2 r hr
      exact ⟨a1, a2, key r a3 a4⟩
    · rw [List.mem_singleton] at hr
      subst hr
      exact ⟨hp.1, hp.2.1, key r hp.2.2.1 hp.2.2.2⟩
theorem cells3_new (w : World) (x y z : Value) (t : TypeId) : (w.alloc (.cells #[x, y, z] t)).cell? ⟨w.heap.size, 0, none⟩ = some x ∧ (w.alloc (.cells #[x, y, z] t)).cell? ⟨w.heap.size, 1, none⟩ = some y ∧ (w.alloc (.cells #[x, y, z] t)).cell? ⟨w.heap.size, 2, none⟩ = some z :=
  ⟨cell_of_row _ _ 0 _ _ _ (heap_alloc_new w _), cell_of_row _ _ 1 _ _ _ (heap_alloc_new w _), cell_of_row _ _ 2 _ _ _ (heap_alloc_new w _)⟩
theorem sKeepB' {N : Nat} {w0 w1 w2 : World} (h : N ≤ w1.heap.size ∧ ∀ b o, b < N → w1.cell? ⟨b, o, none⟩ = w0.cell? ⟨b, o, none⟩) (hB : Below N w1 w2) : N ≤ w2.heap.size ∧ ∀ b o, b < N → w2.cell? ⟨b, o, none⟩ = w0.cell? ⟨b, o, none⟩ :=
  ⟨Nat.le_trans h.1 hB.size, fun b o hb => (hB.cell (p := ⟨b, o, none⟩) hb).trans (h.2 b o hb)⟩
def RetBids (T : TypeId) (w : World) (l : List Bd) (e : Ending) (w' : World) : Prop := ∃ A n c q, e = .returned (.slice A n c) ∧ BRow T w' w.heap.size A n c q ∧ q.map Prod.fst = l ∧ E w w'
theorem flat3_setB : ∀ (q : List (Bd × Sl)) (i : Nat) (p : Bd × Sl) (v : Int), q[i]? = some p → flat3 (q.set i ((v, p.1.2.1, p.1.2.2), p.2)) = (flat3 q).set (i * 3) (.int .i64 v)
  | [], i, p, v, h => by simp at h
  | (x, s) :: q, 0, p, v, h => by simp at h; subst h; simp [flat3]
  | (x, s) :: q, i + 1, p, v, h => by
    simp only [List.getElem?_cons_succ] at h
    have := flat3_setB q i p v h
    simp only [List.set_cons_succ, flat3, this, show (i + 1) * 3 = i * 3 + 3 by omega]
/-- a bidder is written -/
theorem BRow.bidder {T : TypeId} {w : World} {base g n c : Nat} {q : List (Bd × Sl)} (h : BRow T w base (some ⟨g, 0, none⟩) n c q) {i : Nat} {p : Bd × Sl} (hi : q[i]? = some p) (v : Int) (hv : (Lit.int .i64 v).wf = true) :
    BRow T (w.setCell ⟨g, i * 3, none⟩ (.int .i64 v)) base (some ⟨g, 0, none⟩) n c (q.set i ((v, p.1.2.1, p.1.2.2), p.2)) := by
  obtain ⟨h1, h2, h3⟩ := h
  obtain ⟨g1, g2⟩ := World.ownsRow.stored h2 (i * 3) (.int .i64 v)
  rw [← flat3_setB q i p v hi] at g1
  have key : ∀ r : Bd × Sl, Nums .i64 w r.2.1 r.2.2.1 r.2.2.2 r.1.2.2 → (0 < r.2.2.1 → ob r.2.1 ≠ ob (some (⟨g, 0, none⟩ : Addr))) → Nums .i64 (w.setCell ⟨g, i * 3, none⟩ (.int .i64 v)) r.2.1 r.2.2.1 r.2.2.2 r.1.2.2 := fun r hr hne => hr.grown g2 hne
  refine ⟨by simpa using h1, g1, fun r hr => ?_⟩
  rcases List.mem_or_eq_of_mem_set hr with hr | hr
  · obtain ⟨a, b, c, d⟩ := h3 r hr
    exact ⟨a, b, key r c d, d⟩
  · obtain ⟨a, b, c, d⟩ := h3 p (List.mem_of_getElem? hi)
    subst hr
    exact ⟨hv, b, key p c d, d⟩
set_option maxHeartbeats 2000000 in
set_option maxRecDepth 100000 in
theorem given_c (A : Option Addr) (n c : Nat) (l : List Bd) (w : World) (h : BidsAt w A n c l) (hn : n ≤ 1000000) :
    Calls Try.prog 47 #[.slice A n c] w (RetBids 50 w l) := by
  have hl := h.len
  go_enter Try.func47, Try.ntmps47
  go_wp2_with fail
  go_loopw [3, 4] (fun t3 ti wr => ∃ (k c' : Nat) (A' : Option Addr) (q : List (Bd × Sl)), k ≤ n ∧ ti = .int .i64 k ∧ t3 = .slice A' k c' ∧ BRow 50 wr w.heap.size A' k c' q ∧ E w wr ∧ Hid (q.map Prod.fst = l.take k)) (fun _ ti _ => n - (intOf ti).toNat)
  case atStart => exact ⟨0, 0, none, [], Nat.zero_le _, rfl, rfl, BRow.nil _ _ _, E.refl _, rfl⟩
  case round =>
    obtain ⟨k, c', A', q, hk, rfl, rfl, hR, hE, hq⟩ := hrel
    by_cases hlt : k < n
    · obtain ⟨b, o, x, A1, n1, c1, rfl, hb, hx, hv1, hv2, hN, hcs⟩ := h.item hlt
      obtain ⟨hc1, hc2, hc3⟩ := hcs wr hE
      have HX := Lib.hid (show l.take (k + 1) = l.take k ++ [x] by rw [List.take_add_one, hx]; rfl)
      have hbr : b < wr.heap.size := Nat.lt_of_lt_of_le hb hE.le
      clear hx hcs
      have hRd := hR.e ((E.refl wr).drew)
      have hNd := (hN.e hE).e ((E.refl wr).drew)
      have hle := hE.le
      have hbn := below_ne hN hRd
      have hkI : (k : Int) < (n : Int) := by omega
      go_wp2_with fail
      have hbw : b < w.heap.size := hb
      go_region_held3 (fun w' => w.heap.size ≤ w'.heap.size ∧ ∀ b o, b < w.heap.size → w'.cell? ⟨b, o, none⟩ = wr.cell? ⟨b, o, none⟩)
        (first | exact ⟨hle, fun _ _ _ => rfl⟩ | exact sKeepK (by assumption) ((E.refl _).alloc _) | exact sKeepB' (by assumption) (by assumption))
        ((refine step_appBd bidT (by rfl) _ _ (by rfl) w.heap.size _ _ _ _ (by rfl) (hR.e (by first | exact ((E.refl _).alloc _).drewN _ | exact ((E.refl _).alloc _).drew)) _ (x, A1, n1, c1) (by rfl) (cells3_new _ _ _ _ _) ⟨hv1, hv2, (hN.e hE).e (by first | exact ((E.refl _).alloc _).drewN _ | exact ((E.refl _).alloc _).drew), hbn⟩ (by omega) (by simp; omega) ?_; intro g' c2 w3 hR3 hB3))
      rename_i hHeld
      clear hHeld
      have hB4 : Below w.heap.size wr w3 := ((Below.refl _ _).alloc hle _).trans ⟨hB3.os, hB3.tape, hB3.output, hB3.size, hB3.block⟩
      go_wp2_with fail
      go_roundw
      case rel => exact ⟨k + 1, c2, some ⟨g', 0, none⟩, q ++ [(x, A1, n1, c1)], by omega, by go_num, rfl, hR3, hE.up hB4, show _ = _ by rw [HX.out, List.map_append, hq.out]; rfl⟩
      case measure => simp [intOf]; omega
    · have HF := Lib.hid (show q.map Prod.fst = l by rw [hq.out, List.take_of_length_le (by omega)])
      go_wp2_with fail
      go_ret
      exact ⟨A', k, c', q, rfl, hR, HF.out, hE⟩
end Go.Proofs.Ytpbkfpkgbfifaaa
