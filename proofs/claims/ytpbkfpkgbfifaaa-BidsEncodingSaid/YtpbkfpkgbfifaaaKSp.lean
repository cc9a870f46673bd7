/- The model's Spoilt: some list of bids of the same length. -/
import Derived.Test.YtpbkfpkgbfifaaaKQ
namespace Go.Proofs.Ytpbkfpkgbfifaaa
open Go.RowKit

theorem flat3_one (q : List (Bd × Sl)) : ∀ u ∈ flat3 q, u.oneCell' = true := by
  induction q with
  | nil => intro u hu; simp [flat3] at hu
  | cons p r ih =>
    obtain ⟨y, sl⟩ := p
    intro u hu
    simp only [flat3, List.mem_cons] at hu
    rcases hu with rfl | rfl | rfl | hu
    · rfl
    · rfl
    · rfl
    · exact ih u hu
theorem wpList_cp0 {P : Program} {S T : TypeId} (it : BidT P S T) (w : World) {ops : Array Oper} {rest : List Oper} {o : Oper} {a : Act} {Q : Exit → Act → World → Prop} (hgd : o.guard = none) (s x : Operand)
    (ho : o.op = .call { callee := .builtin .append, args := #[s, x], argTypes := #[S, S] })
    (base : Nat) (A : Option Addr) (n c : Nat) (q : List (Bd × Sl)) (hs : a.eval s = .slice none 0 0) (hx : a.eval x = .slice A n c) (hR : BRow T w base A n c q) (hlen : n ≤ 1000000)
    (h : ∀ A' c' w', BRow T w' w.heap.size A' n c' q → E w w' → wpList P ops Q rest (a.put o.dst (.slice A' n c')) w') :
    wpList P ops Q (o :: rest) a w := by
  obtain ⟨i, hi, hz0, hz1, hz2⟩ := info_parts it.info
  refine wpList_plain hgd fun K hK' => ?_
  unfold Oper.wp execOp
  rcases A with _ | ⟨g, off, spot⟩
  · have hn : n = 0 := by
      rcases hR.2.1.2 with ⟨_, h0⟩ | ⟨g, cap, cur, hv, _⟩
      · exact h0
      · injection hv with hv; cases hv
    subst hn
    have hq : q = [] := List.eq_nil_of_length_eq_zero hR.1
    subst hq
    have hrun : (Builtin.append_ #[S, S] o.type #[.slice none 0 0, .slice none 0 c]).run P w = .ok (.slice none 0 0) w := by
      simp [Builtin.append_, run_underlying it.und, sizeOf, typeInfo, hi, Builtin.lenOf, Builtin.firstCells]
    simp only [ho, resolve, invoke, builtin, Sem.run_bind, Sem.run_pure, Result.andThen_ok, List.map_toArray, List.map_cons, List.map_nil, hs, hx, hrun]
    exact hK' _ _ (h none 0 w (BRow.nil _ _ _) (E.refl _))
  · have hR' := hR
    rcases hR.2.1.2 with ⟨hv, _⟩ | ⟨g', cap, cur, hv, _⟩
    · injection hv with hv; cases hv
    injection hv with hv _ hcc
    injection hv with hv
    injection hv with e1 e2 e3
    subst e1 e2 e3 hcc
    obtain ⟨v', w', hrun, h2, h3, h4, h5⟩ := run_append_own_at (P := P) w w.heap.size S o.type T i _ 3 40 it.und hi hz0 hz1 hz2 rfl (by decide) (.slice none 0 0) 0 [] (World.ownsRow_nil _ _ _ _) ⟨g, 0, none⟩ n c (flat3 q) (by rw [flat3_len, hR.1])
      (by intro j u hu
          rw [add_plain, Nat.zero_add, World.ownsRow.cellAt hR'.2.1 j (by have := (List.getElem?_eq_some_iff.1 hu).1; rw [flat3_len, hR.1] at this; exact this)]
          exact hu)
      (flat3_one q) (by unfold maxLen; omega) (by omega) (Nat.le_refl _)
    simp only [ho, resolve, invoke, builtin, Sem.run_bind, Sem.run_pure, Result.andThen_ok, List.map_toArray, List.map_cons, List.map_nil, hs, hx, hrun]
    rw [Nat.zero_add, List.nil_append] at h2
    have hob : (Value.slice none 0 0).ownBlock = none := rfl
    rw [hob] at h3 h5
    have hE : E w w' := (E.refl w).grown h3 (fun k hk => by cases hk)
    obtain ⟨A', c', rfl⟩ : ∃ A' c', v' = .slice A' n c' := by
      rcases h2.2 with ⟨rfl, h0⟩ | ⟨g', c', cur, rfl, _⟩
      · exact ⟨none, 0, by rw [h0]⟩
      · exact ⟨_, _, rfl⟩
    refine hK' _ _ (h A' c' w' ⟨hR.1, h2, fun p hp => ?_⟩ hE)
    obtain ⟨a1, a2, a3, a4⟩ := hR.2.2 p hp
    refine ⟨a1, a2, a3.e hE, fun h0 e => ?_⟩
    obtain ⟨b, o', e1, hb, _⟩ := a3.at_ h0
    rw [e1] at e
    rcases h2.2 with ⟨hv, _⟩ | ⟨g', c'', cur, hv, hb', _⟩
    · injection hv with hv; rw [hv] at e; cases e
    · injection hv with hv
      rw [hv] at e
      have : b = g' := by simpa [ob] using e
      omega
theorem flat3_setL : ∀ (q : List (Bd × Sl)) (i : Nat) (p : Bd × Sl) (ls : List Int) (s : Sl), q[i]? = some p → flat3 (q.set i ((p.1.1, p.1.2.1, ls), s)) = (flat3 q).set (i * 3 + 2) (.slice s.1 s.2.1 s.2.2)
  | [], i, p, ls, s, h => by simp at h
  | (x, s') :: q, 0, p, ls, s, h => by simp at h; subst h; simp [flat3]
  | (x, s') :: q, i + 1, p, ls, s, h => by
    simp only [List.getElem?_cons_succ] at h
    have := flat3_setL q i p ls s h
    simp only [List.set_cons_succ, flat3, this, show (i + 1) * 3 + 2 = i * 3 + 2 + 3 by omega]
/-- a slice of lots is written -/
theorem BRow.lots {T : TypeId} {w : World} {base g n c : Nat} {q : List (Bd × Sl)} (h : BRow T w base (some ⟨g, 0, none⟩) n c q) {i : Nat} {p : Bd × Sl} (hi : q[i]? = some p) (ls : List Int) (s : Sl) (hs : Nums .i64 w s.1 s.2.1 s.2.2 ls) (hne : 0 < s.2.1 → ob s.1 ≠ some g) :
    BRow T (w.setCell ⟨g, i * 3 + 2, none⟩ (.slice s.1 s.2.1 s.2.2)) base (some ⟨g, 0, none⟩) n c (q.set i ((p.1.1, p.1.2.1, ls), s)) := by
  obtain ⟨h1, h2, h3⟩ := h
  obtain ⟨g1, g2⟩ := World.ownsRow.stored h2 (i * 3 + 2) (.slice s.1 s.2.1 s.2.2)
  rw [← flat3_setL q i p ls s hi] at g1
  refine ⟨by simpa using h1, g1, fun r hr => ?_⟩
  rcases List.mem_or_eq_of_mem_set hr with hr | hr
  · obtain ⟨a, b, c, d⟩ := h3 r hr
    exact ⟨a, b, c.grown g2 d, d⟩
  · obtain ⟨a, b, _, _⟩ := h3 p (List.mem_of_getElem? hi)
    subst hr
    exact ⟨a, b, hs.grown g2 hne, hne⟩

theorem own_one (w : World) (T : TypeId) (v : Int) (hv : (Lit.int .i64 v).wf = true) : Own .i64 T (w.alloc (.cells #[.int .i64 v] T)) w.heap.size (some ⟨w.heap.size, 0, none⟩) 1 1 [v] :=
  ⟨rfl, ⟨rfl, .inr ⟨w.heap.size, 1, #[.int .i64 v], rfl, Nat.le_refl _, heap_alloc_new w _, Nat.le_refl _, by unfold maxLen; omega, rfl, rfl⟩⟩, by intro x hx; simp at hx; subst hx; exact hv⟩
theorem Own.some_ {k : IntKind} {T : TypeId} {w : World} {base : Nat} {A : Option Addr} {n c : Nat} {l : List Int} (h : Own k T w base A n c l) (h0 : 0 < n) : ∃ g, A = some ⟨g, 0, none⟩ := by
  rcases h.form with ⟨_, h1, _⟩ | ⟨g, e, _⟩
  · omega
  · exact ⟨g, e⟩
theorem spoil_len {q : List (Bd × Sl)} {k : Nat} {r p : Bd × Sl} (h : ∀ p ∈ q, p.2.2.1 ≤ 1000) (hp : p ∈ q.set k r) (hr : r.2.2.1 ≤ 1001) : p.2.2.1 ≤ 1001 := by
  rcases List.mem_or_eq_of_mem_set hp with hp | hp
  · have := h p hp; omega
  · subst hp; exact hr
theorem boxF {w1 w6 : World} {T : TypeId} {u0 u1 u2 v0 v1 v2 : Value} {g i : Nat} {cs : Array Value} (hE : E (w1.alloc (.cells #[u0, u1, u2] T)) w6) (hg : g < w1.heap.size) (hcs : w1.heap[g]? = some (.cells cs T (0, 0)))
    (c0 : w1.cell? ⟨g, i * 3, none⟩ = some v0) (c1 : w1.cell? ⟨g, i * 3 + 1, none⟩ = some v1) (c2 : w1.cell? ⟨g, i * 3 + 2, none⟩ = some v2) :
    w6.cell? ⟨w1.heap.size, 0, none⟩ = some u0 ∧ w6.cell? ⟨w1.heap.size, 1, none⟩ = some u1 ∧ w6.cell? ⟨w1.heap.size, 2, none⟩ = some u2 ∧ w6.frozen? ⟨w1.heap.size, 2, none⟩ = false ∧
    w6.frozen? ⟨g, i * 3, none⟩ = false ∧ w6.frozen? ⟨g, i * 3 + 1, none⟩ = false ∧ w6.frozen? ⟨g, i * 3 + 2, none⟩ = false ∧
    w6.cell? ⟨g, i * 3, none⟩ = some v0 ∧ w6.cell? ⟨g, i * 3 + 1, none⟩ = some v1 ∧ w6.cell? ⟨g, i * 3 + 2, none⟩ = some v2 := by
  have hE16 := ((E.refl w1).alloc (.cells #[u0, u1, u2] T)).trans hE
  have hblk : w6.heap[w1.heap.size]? = some (.cells #[u0, u1, u2] T (0, 0)) := (hE.block (by simp)).trans (heap_alloc_new w1 _)
  have hgk : w6.heap[g]? = some (.cells cs T (0, 0)) := (hE16.block hg).trans hcs
  exact ⟨cell_of_row _ _ 0 _ _ _ hblk, cell_of_row _ _ 1 _ _ _ hblk, cell_of_row _ _ 2 _ _ _ hblk, frozen_of_row _ _ 2 _ _ hblk, frozen_of_row _ _ (i * 3) _ _ hgk, frozen_of_row _ _ (i * 3 + 1) _ _ hgk, frozen_of_row _ _ (i * 3 + 2) _ _ hgk,
    (hE16.cell (p := ⟨g, i * 3, none⟩) hg).trans c0, (hE16.cell (p := ⟨g, i * 3 + 1, none⟩) hg).trans c1, (hE16.cell (p := ⟨g, i * 3 + 2, none⟩) hg).trans c2⟩
/-- a whole bid is written -/
theorem BRow.put3 {T : TypeId} {w : World} {base g n c : Nat} {q : List (Bd × Sl)} (h : BRow T w base (some ⟨g, 0, none⟩) n c q) {i : Nat} {p : Bd × Sl} (hi : q[i]? = some p) (vb vp : Int) (ls : List Int) (s : Sl) (h1 : (Lit.int .i64 vb).wf = true) (h2 : (Lit.int .i64 vp).wf = true) (hs : Nums .i64 w s.1 s.2.1 s.2.2 ls) (hne : 0 < s.2.1 → ob s.1 ≠ some g) :
    BRow T (((w.setCell ⟨g, i * 3, none⟩ (.int .i64 vb)).setCell ⟨g, i * 3 + 1, none⟩ (.int .i64 vp)).setCell ⟨g, i * 3 + 2, none⟩ (.slice s.1 s.2.1 s.2.2)) base (some ⟨g, 0, none⟩) n c (q.set i ((vb, vp, ls), s)) := by
  have hil := (List.getElem?_eq_some_iff.1 hi).1
  have a1 := h.bidder hi vb h1
  have a2 := a1.price (List.getElem?_set_self hil) vp h2
  have s1 : Nums .i64 (w.setCell ⟨g, i * 3, none⟩ (.int .i64 vb)) s.1 s.2.1 s.2.2 ls := hs.grown (World.ownsRow.stored h.2.1 (i * 3) (.int .i64 vb)).2 hne
  have s2 : Nums .i64 ((w.setCell ⟨g, i * 3, none⟩ (.int .i64 vb)).setCell ⟨g, i * 3 + 1, none⟩ (.int .i64 vp)) s.1 s.2.1 s.2.2 ls := s1.grown (World.ownsRow.stored a1.2.1 (i * 3 + 1) (.int .i64 vp)).2 hne
  have a3 := a2.lots (List.getElem?_set_self (by simpa using hil)) ls s s2 hne
  simpa using a3

set_option maxHeartbeats 4000000 in
set_option maxRecDepth 100000 in
theorem spoilt_c (A : Option Addr) (n c : Nat) (q : List (Bd × Sl)) (at_ how by_ : Int) (w : World) (base : Nat) (h : BRow 53 w base A n c q) (hn : n ≤ 1000) (ha1 : -9223372036854775808 ≤ at_) (ha2 : at_ ≤ 9223372036854775807) (hh1 : -9223372036854775808 ≤ how) (hh2 : how ≤ 9223372036854775807) (hb1 : -9223372036854775808 ≤ by_) (hb2 : by_ ≤ 9223372036854775807) (hM : ∀ p ∈ q, p.2.2.1 ≤ 1000) :
    Calls Try.prog 14 #[.slice A n c, .int .i64 at_, .int .i64 how, .int .i64 by_] w fun e w' => ∃ A' c' q', e = .returned (.slice A' n c') ∧ BRow 53 w' w.heap.size A' n c' q' ∧ (∀ p ∈ q', p.2.2.1 ≤ 1001) ∧ E w w' := by
  have HM := Lib.hid hM
  have hc63 := h.bids.mx
  clear hM
  go_enter Try.func14, Try.ntmps14
  by_cases hn0 : n = 0
  · have hz : ((n : Int) == 0) = true := by simp [hn0]
    have HN0 := Lib.hid hn0
    clear hn0
    go_wp2_with (at_builtin; refine wpList_cp0 bidTr _ rfl _ _ rfl _ _ _ _ _ rfl rfl h (by omega) ?_; intro A1 c1 w1 hR1 hE1)
    go_ret
    exact ⟨A1, c1, q, rfl, hR1, fun p hp => by have := HM.out p hp; omega, hE1⟩
  have hz : ((n : Int) == 0) = false := by simp [hn0]
  go_wp2_with (at_builtin; refine wpList_cp0 bidTr _ rfl _ _ rfl _ _ _ _ _ rfl rfl h (by omega) ?_; intro A1 c1 w1 hR1 hE1)
  obtain ⟨g, rfl⟩ : ∃ g, A1 = some ⟨g, 0, none⟩ := by
    rcases hR1.2.1.2 with ⟨hv, h0⟩ | ⟨g, cap, cur, hv, _⟩
    · exact absurd h0 hn0
    · injection hv with hv; exact ⟨g, hv⟩
  have HA1 := Lib.hid (fun W => around1_c at_ n W ha1 ha2 (by omega) (by omega))
  have HA2 := Lib.hid (fun W => around1_c how 5 W hh1 hh2 (by omega) (by omega))
  have hri := aroN_range at_ (m := (n : Int)) (by omega)
  obtain ⟨k, hk⟩ : ∃ k : Nat, aroN at_ (n : Int) = k := ⟨(aroN at_ n).toNat, by omega⟩
  rw [hk] at hri HA1
  have hrh := aroN_range how (m := 5) (by omega)
  obtain ⟨hw, hhw⟩ : ∃ hw, aroN how 5 = hw := ⟨_, rfl⟩
  rw [hhw] at hrh HA2
  have hkn : (k : Int) < (n : Int) := by omega
  obtain ⟨p, hp⟩ : ∃ p, q[k]? = some p := ⟨q[k]'(by rw [hR1.1]; omega), List.getElem?_eq_getElem _⟩
  have HP := Lib.hid hp
  have hg := hR1.ltN g rfl
  have hpf := hR1.2.2 p (List.mem_of_getElem? hp)
  have c0 : w1.cell? ⟨g, k * 3, none⟩ = some (.int .i64 p.1.1) := by rw [World.ownsRow.cellAt hR1.2.1 (k * 3) (by omega)]; exact (flat3_get q k p hp).1
  have c1' : w1.cell? ⟨g, k * 3 + 1, none⟩ = some (.int .i64 p.1.2.1) := by rw [World.ownsRow.cellAt hR1.2.1 (k * 3 + 1) (by omega)]; exact (flat3_get q k p hp).2.1
  have c2 : w1.cell? ⟨g, k * 3 + 2, none⟩ = some (.slice p.2.1 p.2.2.1 p.2.2.2) := by rw [World.ownsRow.cellAt hR1.2.1 (k * 3 + 2) (by omega)]; exact (flat3_get q k p hp).2.2
  have hp1000 := HM.out p (List.mem_of_getElem? hp)
  obtain ⟨⟨xb, xp, xl⟩, Ax, nx, cx⟩ := p
  simp only at *
  obtain ⟨hx1, hx2, hx3, hx4⟩ := hpf
  clear hk hhw hri hp hn0
  refine (HA1.out _).mono ?_
  rintro e w' ⟨rfl, rfl⟩
  go_wp2_with fail
  refine (HA2.out _).mono ?_
  rintro e w' ⟨rfl, rfl⟩
  obtain ⟨cs, hcs⟩ : ∃ cs, w1.heap[g]? = some (.cells cs 53 (0, 0)) := by
    rcases hR1.2.1.2 with ⟨hv, _⟩ | ⟨g', cap, cur, hv, _, hh, _⟩
    · injection hv with hv; cases hv
    · injection hv with hv; injection hv with hv; injection hv with hv; subst hv; exact ⟨_, hh⟩
  have f0 := frozen_of_row _ _ (k * 3) _ _ hcs
  have f1 := frozen_of_row _ _ (k * 3 + 1) _ _ hcs
  have f2 := frozen_of_row _ _ (k * 3 + 2) _ _ hcs
  have hB0 := cells3_new w1 (.int .i64 xb) (.int .i64 xp) (.slice Ax nx cx) 53
  have hBz : g < w1.heap.size := hg.2
  have hne : w1.heap.size ≠ g := by omega
  obtain rfl | rfl | rfl | rfl | rfl : hw = 0 ∨ hw = 1 ∨ hw = 2 ∨ hw = 3 ∨ hw = 4 := by omega
  · go_wp2_with fail
    go_ret
    exact ⟨some ⟨g, 0, none⟩, c1, _, rfl, (hR1.put3 HP.out by_ xp xl (Ax, nx, cx) (wf_of_i64 hb1 hb2) hx2 hx3 hx4).e ((E.refl _).alloc _), fun p hp => spoil_len HM.out hp (by simp only; omega), (((hE1.setCell (p := ⟨g, k * 3, none⟩) hg.1 _).setCell (p := ⟨g, k * 3 + 1, none⟩) hg.1 _).setCell (p := ⟨g, k * 3 + 2, none⟩) hg.1 _).alloc _⟩
  · go_wp2_with fail
    go_ret
    exact ⟨some ⟨g, 0, none⟩, c1, _, rfl, (hR1.put3 HP.out xb by_ xl (Ax, nx, cx) hx1 (wf_of_i64 hb1 hb2) hx3 hx4).e ((E.refl _).alloc _), fun p hp => spoil_len HM.out hp (by simp only; omega), (((hE1.setCell (p := ⟨g, k * 3, none⟩) hg.1 _).setCell (p := ⟨g, k * 3 + 1, none⟩) hg.1 _).setCell (p := ⟨g, k * 3 + 2, none⟩) hg.1 _).alloc _⟩
  · have hNx := hx3.e (((E.refl w1).alloc (.cells #[.int .i64 xb, .int .i64 xp, .slice Ax nx cx] 53)).alloc (.cells #[] 3))
    have hOe := Own.empty (w1.alloc (.cells #[.int .i64 xb, .int .i64 xp, .slice Ax nx cx] 53)) .i64 3
    rw [World.size_alloc] at hOe
    go_wp2_with (at_builtin; first
      | (refine wpList_appN intTk _ rfl _ _ rfl _ _ 0 0 [] rfl hOe _ _ _ _ rfl hNx (by omega) (by simp) ?_; intro A5 c5 w5 hO5 hG5 hB5; rw [Nat.zero_add, List.nil_append] at hO5)
      | (refine wpList_app1n intTk _ rfl _ _ rfl _ _ _ _ _ rfl hO5 _ rfl (wf_of_i64 hb1 hb2) (by omega) (by have := hG5.size; simp at this; omega) ?_; intro g6 c6 w6 hO6 hG6 hB6 hor6; have hE06 := (((E.refl (w1.alloc (.cells #[.int .i64 xb, .int .i64 xp, .slice Ax nx cx] 53))).alloc _).grown hG5 (fun k hk => by simp [Value.ownBlock] at hk; simp; omega)).grown hG6 (fun k hk => by rw [ob_eq] at hk; have := (hO5.ltN k hk).1; simp; omega); obtain ⟨e0, e1, e2, fb2, g0, g1, g2, d0, d1, d2⟩ := boxF hE06 hBz hcs c0 c1' c2))
    have hE16 := ((E.refl w1).alloc (.cells #[.int .i64 xb, .int .i64 xp, .slice Ax nx cx] 53)).trans hE06
    have hE17 := hE16.setCell (p := ⟨w1.heap.size, 2, none⟩) (Nat.le_refl _) (.slice (some ⟨g6, 0, none⟩) (nx + 1) c6)
    have hNl := (hO6.reads).ex (X := fun i => i = w1.heap.size) (w' := w6.setCell ⟨w1.heap.size, 2, none⟩ (.slice (some ⟨g6, 0, none⟩) (nx + 1) c6)) ((Ex.refl (fun i => i = w1.heap.size) w6).setCell ⟨w1.heap.size, 2, none⟩ (.inr rfl) _) (fun b hb e => by have := (hO6.ltN b hb).1; omega)
    have hng : ob (some (⟨g6, 0, none⟩ : Addr)) ≠ some g := fun e => by have := (hO6.ltN g e).1; omega
    have hEw7 := hE1.trans hE17
    have hle := hg.1
    go_ret
    exact ⟨some ⟨g, 0, none⟩, c1, _, rfl, (hR1.e hE17).put3 HP.out xb xp _ (_, _, _) hx1 hx2 hNl (fun _ => hng), fun p hp => spoil_len HM.out hp (by simp only; omega), ((hEw7.setCell (p := ⟨g, k * 3, none⟩) hle _).setCell (p := ⟨g, k * 3 + 1, none⟩) hle _).setCell (p := ⟨g, k * 3 + 2, none⟩) hle _⟩
  · go_wp2_with fail
    go_ret
    exact ⟨some ⟨g, 0, none⟩, c1, _, rfl, (hR1.put3 HP.out xb xp [] (none, 0, 0) hx1 hx2 (Nums.nil _ _ _ _ (Nat.zero_le _)) (fun h0 => absurd h0 (by simp))).e ((E.refl _).alloc _), fun p hp => spoil_len HM.out hp (by simp only; omega), (((hE1.setCell (p := ⟨g, k * 3, none⟩) hg.1 _).setCell (p := ⟨g, k * 3 + 1, none⟩) hg.1 _).setCell (p := ⟨g, k * 3 + 2, none⟩) hg.1 _).alloc _⟩
  · have hNx := hx3.e (((E.refl w1).alloc (.cells #[.int .i64 xb, .int .i64 xp, .slice Ax nx cx] 53)).alloc (.cells #[.int .i64 by_] 3))
    have hOe := own_one (w1.alloc (.cells #[.int .i64 xb, .int .i64 xp, .slice Ax nx cx] 53)) 3 by_ (wf_of_i64 hb1 hb2)
    rw [World.size_alloc] at hOe
    go_wp2_with (at_builtin; refine wpList_appN intTk _ rfl _ _ rfl _ _ 1 1 [by_] rfl hOe _ _ _ _ rfl hNx (by omega) (by simp) ?_; intro A6 c6 w6 hO6 hG6 hB6; obtain ⟨g6, rfl⟩ := hO6.some_ (by omega); have hE06 := ((E.refl (w1.alloc (.cells #[.int .i64 xb, .int .i64 xp, .slice Ax nx cx] 53))).alloc _).grown hG6 (fun k hk => by simp [Value.ownBlock] at hk; simp; omega); obtain ⟨e0, e1, e2, fb2, g0, g1, g2, d0, d1, d2⟩ := boxF hE06 hBz hcs c0 c1' c2)
    have hE16 := ((E.refl w1).alloc (.cells #[.int .i64 xb, .int .i64 xp, .slice Ax nx cx] 53)).trans hE06
    have hE17 := hE16.setCell (p := ⟨w1.heap.size, 2, none⟩) (Nat.le_refl _) (.slice (some ⟨g6, 0, none⟩) (1 + nx) c6)
    have hNl := (hO6.reads).ex (X := fun i => i = w1.heap.size) (w' := w6.setCell ⟨w1.heap.size, 2, none⟩ (.slice (some ⟨g6, 0, none⟩) (1 + nx) c6)) ((Ex.refl (fun i => i = w1.heap.size) w6).setCell ⟨w1.heap.size, 2, none⟩ (.inr rfl) _) (fun b hb e => by have := (hO6.ltN b hb).1; omega)
    have hng : ob (some (⟨g6, 0, none⟩ : Addr)) ≠ some g := fun e => by have := (hO6.ltN g e).1; omega
    have hEw7 := hE1.trans hE17
    have hle := hg.1
    go_ret
    exact ⟨some ⟨g, 0, none⟩, c1, _, rfl, (hR1.e hE17).put3 HP.out xb xp _ (_, _, _) hx1 hx2 hNl (fun _ => hng), fun p hp => spoil_len HM.out hp (by simp only; omega), ((hEw7.setCell (p := ⟨g, k * 3, none⟩) hle _).setCell (p := ⟨g, k * 3 + 1, none⟩) hle _).setCell (p := ⟨g, k * 3 + 2, none⟩) hle _⟩
end Go.Proofs.Ytpbkfpkgbfifaaa
