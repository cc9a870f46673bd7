/- Contract of Split of package share. -/
import Derived.Test.YtbpfdogjjoceaaaS9
import Derived.RegionTactic
import Derived.BigRegion
import Derived.Deep.DeepCutAuto
import Derived.Deep.CutBlock
namespace Go.Proofs.Ytbpfdogjjoceaaa
open Go.RowKit

theorem intT3 : IntT Try.prog 22 3 .i64 8 := ⟨Try.underlying22, by kernel_rfl, by omega⟩
theorem u64T3 : IntT Try.prog 78 59 .u64 8 := ⟨Try.underlying78, by kernel_rfl, by omega⟩

/-- the sum of the first k weights, all of them amounts, at most 2^60 -/
def SumAt (ws : List Int) (k : Nat) (s : Int) : Prop := s = (ws.take k).sum ∧ ∀ x ∈ ws.take k, okU x = true
theorem SumAt.start (ws : List Int) : SumAt ws 0 0 := ⟨by simp, by simp⟩
theorem SumAt.step {ws : List Int} {k : Nat} {s x : Int} (h : SumAt ws k s) (hx : ws[k]? = some x) (hok : okU x = true) : SumAt ws (k + 1) (s + x) := by
  obtain ⟨hk, rfl⟩ := List.getElem?_eq_some_iff.1 hx
  have e : ws.take (k + 1) = ws.take k ++ [ws[k]] := by rw [List.take_succ_eq_append_getElem hk]
  refine ⟨by rw [e, List.sum_append, h.1]; simp, fun y hy => ?_⟩
  rw [e] at hy
  rcases List.mem_append.1 hy with hy | hy
  · exact h.2 y hy
  · simp at hy; rw [hy]; exact hok
theorem SumAt.all {ws : List Int} {k : Nat} {s : Int} (h : SumAt ws k s) (hk : ws.length ≤ k) : s = ws.sum ∧ ws.all okU = true := by
  obtain ⟨h1, h2⟩ := h
  rw [List.take_of_length_le hk] at h1 h2
  exact ⟨h1, List.all_eq_true.2 h2⟩
theorem SumAt.le {ws : List Int} {k : Nat} {s : Int} (h : SumAt ws k s) (hall : ws.all okU = true) : s ≤ ws.sum := by
  rw [h.1]; exact sum_take_le (fun x hx => (okU_iff.1 (List.all_eq_true.1 hall x hx)).1) k
theorem splitOk_all {t : Int} {ws : List Int} (h : splitOk t ws = true) : ws.all okU = true := by
  simp only [splitOk, Bool.and_eq_true] at h; exact h.2.1
theorem splitOk_fin {t : Int} {ws : List Int} (ht : okU t = true) (h : splitOk t ws = false) (ha : ws.all okU = true) (hs : ws.sum ≤ 1152921504606846976) : ws.sum = 0 := by
  have h0 := sum_nonneg fun x hx => (okU_iff.1 (List.all_eq_true.1 ha x hx)).1
  simp only [splitOk, ht, ha, Bool.true_and, Bool.and_eq_false_iff, decide_eq_false_iff_not] at h
  omega

set_option maxHeartbeats 1000000 in
theorem split_no (t : Int) (A : Option Addr) (n c : Nat) (ws : List Int) (w : World) (h : Nums .i64 w A n c ws) (hno : splitOk t ws = false) :
    Calls Try.prog 45 #[.int .i64 t, .slice A n c] w fun e w' => e = .returned (.tuple #[.slice none 0 0, .int .i64 1]) ∧ w = w' := by
  have hm := h.n63
  have HN := Lib.hid hno
  clear hno
  cases ht : okU t
  · go_enter Try.func45, Try.ntmps45
    go_wp2_with (go_at_call 66; refine (isAmount_c _ _).mono ?_; rintro e w' ⟨rfl, rfl⟩)
    go_ret2
    exact ⟨rfl, rfl⟩
  · go_enter Try.func45, Try.ntmps45
    go_wp2_with (go_at_call 66; refine (isAmount_c _ _).mono ?_; rintro e w' ⟨rfl, rfl⟩)
    go_loop [6, 23] (fun ts ti => ∃ (k : Nat) (s : Int), k ≤ n ∧ ti = .int .i64 k ∧ ts = .int .i64 s ∧ 0 ≤ s ∧ s ≤ 1152921504606846976 ∧ Hid (SumAt ws k s)) (fun _ ti => n - (intOf ti).toNat)
    case atStart => exact ⟨0, 0, Nat.zero_le _, rfl, rfl, by omega, by omega, SumAt.start ws⟩
    case round =>
      obtain ⟨k, s, hk, rfl, rfl, s0, s1, hS⟩ := hrel
      by_cases hlt : k < n
      · obtain ⟨b, o, x, rfl, hb, hx, hwx, hck⟩ := h.get hlt
        cases hox : okU x
        · clear hx hwx
          go_wp2_with (go_at_call 66; refine (isAmount_c _ _).mono ?_; rintro e w' ⟨rfl, rfl⟩)
          go_ret2
          exact ⟨rfl, rfl⟩
        · have HS := Lib.hid (hS.out.step hx hox)
          obtain ⟨x0, x1⟩ := okU_iff.1 hox
          clear hx hwx
          by_cases hbig : 1152921504606846976 < s + x
          · go_wp2_with (go_at_call 66; refine (isAmount_c _ _).mono ?_; rintro e w' ⟨rfl, rfl⟩)
            go_ret2
            exact ⟨rfl, rfl⟩
          · go_wp2_with (go_at_call 66; refine (isAmount_c _ _).mono ?_; rintro e w' ⟨rfl, rfl⟩)
            go_round
            case rel => exact ⟨k + 1, s + x, by omega, by go_num, rfl, by omega, by omega, HS⟩
            case measure => simp [intOf]; omega
      · obtain ⟨f1, f2⟩ := hS.out.all (by rw [h.len]; omega)
        obtain rfl : s = 0 := by rw [f1]; exact splitOk_fin ht HN.out f2 (by rw [← f1]; exact s1)
        clear f1 f2
        go_wp2_with fail
        go_ret2
        exact ⟨rfl, rfl⟩

/-- what is laid at place k of a list that is filled from the left -/
def fillL (l : List Int) (n k : Nat) : List Int := l.take k ++ (List.replicate n 0).drop k
theorem fillL_start (l : List Int) (n : Nat) : fillL l n 0 = List.replicate n 0 := by simp [fillL]
theorem fillL_end {l : List Int} {n k : Nat} (h : l.length = n) (hk : n ≤ k) : fillL l n k = l := by
  unfold fillL
  rw [List.take_of_length_le (by omega), List.drop_eq_nil_of_le (by simp; omega), List.append_nil]
theorem fillL_set {l : List Int} {n k : Nat} {x : Int} (h : l.length = n) (hx : l[k]? = some x) : (fillL l n k).set k x = fillL l n (k + 1) := by
  obtain ⟨hk, rfl⟩ := List.getElem?_eq_some_iff.1 hx
  unfold fillL
  have e0 : (List.replicate n (0 : Int))[k]? = some 0 := by rw [List.getElem?_replicate, if_pos (by omega)]
  rw [mid_set (by rw [List.length_take]; omega) e0, ← List.take_succ_eq_append_getElem hk]

theorem Own.keptN {k : IntKind} {T : TypeId} {w w' : World} {base g gs n c : Nat} {l : List Int} (h : Own k T w base (some ⟨g, 0, none⟩) n c l) (hG : w.grownBy w' (some gs)) (hne : g ≠ gs) : Own k T w' base (some ⟨g, 0, none⟩) n c l :=
  ⟨h.1, World.ownsRow.kept h.2.1 hG (.inr (fun e => hne (by simpa [Value.ownBlock] using e))), h.2.2⟩
theorem grown_set (w : World) (g i : Nat) (v : Value) : w.grownBy (w.setCell ⟨g, i, none⟩ v) (some g) :=
  ⟨rfl, rfl, rfl, by simp, fun b _ hne => Below.heap_setCell w ⟨g, i, none⟩ v b (fun e => hne (by rw [e]))⟩

theorem quos_le {t : Int} {ws : List Int} (h : SplitPre t ws) : ∀ x ∈ quos t ws.sum ws, 0 ≤ x ∧ x ≤ t := by
  intro x hx
  refine ⟨quos_nonneg h.t0 h.s0 (fun x hx => (h.w0 x hx).1) x hx, ?_⟩
  simp only [quos, List.mem_map] at hx
  obtain ⟨y, hy, rfl⟩ := hx
  exact part_le h.t0 (le_sum (fun x hx => (h.w0 x hx).1) hy) h.s0
theorem bump_le {l : List Int} {t : Int} (h : ∀ x ∈ l, 0 ≤ x ∧ x ≤ t) {is : List Nat} (hn : is.Nodup) {i : Nat} {y : Int} (hy : (bump l is)[i]? = some y) : 0 ≤ y ∧ y ≤ t + 1 := by
  have hi : i < l.length := by
    obtain ⟨hk, _⟩ := List.getElem?_eq_some_iff.1 hy
    rwa [bump_len] at hk
  have e := bump_get l is hn i hi
  rw [List.getD_eq_getElem?_getD, hy] at e
  have := h _ (getD_mem hi)
  simp at e
  split at e <;> (simp only [List.getD_eq_getElem?_getD] at this; omega)
theorem bump_step {l : List Int} {is : List Nat} {k i : Nat} {y : Int} (hi : is[k]? = some i) (hy : (bump l (is.take k))[i]? = some y) : (bump l (is.take k)).set i (y + 1) = bump l (is.take (k + 1)) := by
  obtain ⟨hk, rfl⟩ := List.getElem?_eq_some_iff.1 hi
  rw [List.take_succ_eq_append_getElem hk, bump_snoc, List.getD_eq_getElem?_getD, hy]; rfl

set_option maxHeartbeats 4000000 in
set_option maxRecDepth 100000 in
theorem split_yes (t : Int) (A : Option Addr) (n c : Nat) (ws : List Int) (w : World) (h : Nums .i64 w A n c ws) (hok : splitOk t ws = true) (hn : n ≤ 1048576) :
    Calls Try.prog 45 #[.int .i64 t, .slice A n c] w (RetOwnErr .i64 3 w (splitL t ws, 0)) := by
  have hm := h.n63
  have hpre := splitPre_of hok
  have hall := splitOk_all hok
  have ht : okU t = true := okU_iff.2 ⟨hpre.t0, hpre.t1⟩
  obtain ⟨t0, t1⟩ := okU_iff.1 ht
  have s0 := hpre.s0
  have s1 := hpre.s1
  have hn0 : 0 < n := by
    rcases Nat.eq_zero_or_pos n with h0 | h0
    · have : ws = [] := List.eq_nil_of_length_eq_zero (by rw [h.len, h0])
      rw [this] at s0; simp at s0
    · exact h0
  have HP := Lib.hid hpre
  have HA := Lib.hid hall
  clear hok hpre hall
  go_enter Try.func45, Try.ntmps45
  go_wp2_with (go_at_call 66; refine (isAmount_c _ _).mono ?_; rintro e w' ⟨rfl, rfl⟩)
  go_loop [6, 23] (fun ts ti => ∃ (k : Nat) (s : Int), k ≤ n ∧ ti = .int .i64 k ∧ ts = .int .i64 s ∧ 0 ≤ s ∧ s ≤ 1152921504606846976 ∧ Hid (SumAt ws k s)) (fun _ ti => n - (intOf ti).toNat)
  case atStart => exact ⟨0, 0, Nat.zero_le _, rfl, rfl, by omega, by omega, SumAt.start ws⟩
  case round =>
    obtain ⟨k, s, hk, rfl, rfl, z0, z1, hS⟩ := hrel
    by_cases hlt : k < n
    · obtain ⟨b, o, x, rfl, hb, hx, hwx, hck⟩ := h.get hlt
      have hox : okU x = true := List.all_eq_true.1 HA.out x (List.mem_of_getElem? hx)
      have HS := Lib.hid (hS.out.step hx hox)
      obtain ⟨x0, x1⟩ := okU_iff.1 hox
      have hle : s + x ≤ 1152921504606846976 := by have := HS.out.le HA.out; omega
      clear hx hwx
      go_wp2_with (go_at_call 66; refine (isAmount_c _ _).mono ?_; rintro e w' ⟨rfl, rfl⟩)
      go_round
      case rel => exact ⟨k + 1, s + x, by omega, by go_num, rfl, by omega, by omega, HS⟩
      case measure => simp [intOf]; omega
    · obtain ⟨f1, _⟩ := hS.out.all (by rw [h.len]; omega)
      have hnI : ((n : Nat) : Int) ≤ 1048576 := by omega
      obtain ⟨S, hSe⟩ : ∃ S, ws.sum = S := ⟨_, rfl⟩
      rw [hSe] at f1 s0 s1
      subst f1
      have HSe := Lib.hid hSe
      have hs0 : (s == 0) = false := by simp; omega
      clear hSe hS
      have tok1 : True := trivial
      go_wp2_with (first
        | (at_make; have _t := tok1; refine wpList_mk intT3 _ rfl _ _ rfl _ _ _ _ n rfl rfl rfl rfl (by omega) ?_; intro w1 hO1 hE1 hz1; clear tok1 _t)
        | (at_make; refine wpList_mk u64T3 _ rfl _ _ rfl _ _ _ _ n rfl rfl rfl rfl (by omega) ?_; intro w2 hO2 hE2 hz2)
        | (at_make; refine wpList_mk intT3 _ rfl _ _ rfl _ _ _ _ n rfl rfl rfl rfl (by omega) ?_; intro w3 hO3 hE3 hz3))
      have hE2a := hE2.alloc (.cells #[.slice (some ⟨w.heap.size + 1, 0, none⟩) n n] 78)
      have hEw : E w w3 := (hE1.trans hE2a).trans hE3
      have O1 : Own .i64 3 w3 w.heap.size (some ⟨w.heap.size, 0, none⟩) n n (List.replicate n 0) := (hO1.e hE2a).e hE3
      have O2 : Own .u64 59 w3 w.heap.size (some ⟨w.heap.size + 1, 0, none⟩) n n (List.replicate n 0) := by
        rw [hz1] at hO2
        exact ((hO2.e ((E.refl _).alloc _)).e hE3).rebase (by omega)
      have O3 : Own .i64 3 w3 w.heap.size (some ⟨w.heap.size + 1 + 1 + 1, 0, none⟩) n n (List.replicate n 0) := by
        simp only [World.size_alloc, hz2, hz1] at hO3
        exact hO3.rebase (by omega)
      have hbox : w3.cell? ⟨w.heap.size + 1 + 1, 0, none⟩ = some (.slice (some ⟨w.heap.size + 1, 0, none⟩) n n) := by
        have hw2 : w2.heap.size = w.heap.size + 1 + 1 := by rw [hz2, hz1]
        rw [hE3.cell (by simp [hw2]), ← hw2]
        exact cell_new _ _ _
      clear hO1 hO2 hO3 hE1 hE2 hE3 hE2a hz1 hz2 hz3
      generalize hg3 : w.heap.size + 1 + 1 + 1 = g3 at *
      generalize hgB : w.heap.size + 1 + 1 = gB at *
      generalize hg2 : w.heap.size + 1 = g2 at *
      generalize hg1 : w.heap.size = g1 at *
      have d12 : g1 ≠ g2 := by omega
      have d1B : g1 ≠ gB := by omega
      have d13 : g1 ≠ g3 := by omega
      have d2B : g2 ≠ gB := by omega
      have d23 : g2 ≠ g3 := by omega
      have dB3 : gB ≠ g3 := by omega
      have l2 : g1 ≤ g2 := by omega
      have l3 : g1 ≤ g3 := by omega
      have HG1 := Lib.hid hg1
      clear hg1 hg2 hgB hg3
      have hql : (quos t s ws).length = n := by rw [quos_len, h.len]
      have hrl : (rems t s ws).length = n := by rw [rems_len, h.len]
      have HQL := Lib.hid hql
      have HRL := Lib.hid hrl
      have hLf := Lib.hid (left_facts (t := t) (ws := ws) HP.out.s0)
      have hLl := Lib.hid (left_le (t := t) (ws := ws) HP.out.s0)
      rw [HSe.out] at hLf hLl
      have HQ0 := Lib.hid (quos_nonneg (t := t) (S := s) t0 s0 (fun x hx => (HP.out.w0 x hx).1))
      clear hql hrl
      go_loopw [12, 50] (fun tl ti wr => ∃ (k : Nat) (L : Int), k ≤ n ∧ ti = .int .i64 k ∧ tl = .int .i64 L ∧ 0 ≤ L ∧ L ≤ t ∧ Hid (L = t - ((quos t s ws).take k).sum) ∧ Own .i64 3 wr g1 (some ⟨g1, 0, none⟩) n n (fillL (quos t s ws) n k) ∧ Own .u64 59 wr g1 (some ⟨g2, 0, none⟩) n n (fillL (rems t s ws) n k) ∧ Own .i64 3 wr g1 (some ⟨g3, 0, none⟩) n n (fillL ((List.range n).map fun i : Nat => (i : Int)) n k) ∧ wr.cell? ⟨gB, 0, none⟩ = some (.slice (some ⟨g2, 0, none⟩) n n) ∧ E w wr) (fun _ ti _ => n - (intOf ti).toNat)
      case atStart => exact ⟨0, t, Nat.zero_le _, rfl, rfl, t0, Int.le_refl _, show _ = _ by simp, by rw [fillL_start]; exact O1, by rw [fillL_start]; exact O2, by rw [fillL_start]; exact O3, hbox, hEw⟩
      case round =>
        clear O1 O2 O3 hbox hEw
        obtain ⟨j, L, hj, rfl, rfl, L0, L1, HL, O1, O2, O3, hbox, hE⟩ := hrel
        by_cases hjn : j < n
        · obtain ⟨b, o, x, hA, hb, hx, hwx, hck⟩ := (h.e hE).get hjn
          subst hA
          have hxm := List.mem_of_getElem? hx
          obtain ⟨x0, x1⟩ := HP.out.w0 x hxm
          have hxs : x ≤ s := by have := le_sum (fun y hy => (HP.out.w0 y hy).1) hxm; rwa [HSe.out] at this
          have hqle := part_le t0 hxs s0
          have hdok : divOk t x s = true := divOk_iff.2 ⟨⟨t0, t1⟩, ⟨x0, by omega⟩, s0, s1⟩
          have hfit : divFit t x s = true := by simp only [divFit, decide_eq_true_eq]; omega
          have hq : divQ t x s = t * x / s := by simp [divQ, hdok, hfit]
          have hr : divR t x s = t * x % s := by simp [divR, hdok, hfit]
          have hee : divE t x s = 0 := by simp [divE, hdok, hfit]
          have hq0 := Int.ediv_nonneg (Int.mul_nonneg t0 x0) (Int.le_of_lt s0)
          have hr0 := Int.emod_nonneg (t * x) (show s ≠ 0 by omega)
          have hr1 := Int.emod_lt_of_pos (t * x) s0
          have HD := Lib.hid (divide_c t x s wr)
          rw [hq, hr, hee] at HD
          have hqk : (quos t s ws)[j]? = some (t * x / s) := by simp [quos, hx]
          have hrk : (rems t s ws)[j]? = some (t * x % s) := by simp [rems, hx]
          have HFQ := Lib.hid (fillL_set HQL.out hqk)
          have HFR := Lib.hid (fillL_set HRL.out hrk)
          have HFO := Lib.hid (fillL_set (l := (List.range n).map fun i : Nat => (i : Int)) (n := n) (k := j) (x := (j : Int)) (by simp) (by rw [List.getElem?_map, List.getElem?_range hjn]; rfl))
          have HLs := Lib.hid (show L - t * x / s = t - ((quos t s ws).take (j + 1)).sum by
            obtain ⟨hk', e'⟩ := List.getElem?_eq_some_iff.1 hqk
            rw [List.take_succ_eq_append_getElem hk', List.sum_append, e', HL.out]; simp; omega)
          have hLn : 0 ≤ L - t * x / s := by
            have a1 := sum_take_le HQ0.out (j + 1)
            have a2 := hLf.out.1
            have a3 := HLs.out
            omega
          clear hx hwx hxm hdok hfit hq hr hee hqk hrk
          generalize t * x / s = q at *
          generalize t * x % s = r at *
          go_wp2_with fail
          refine HD.out.mono ?_
          rintro e w' ⟨rfl, hQ⟩
          replace O1 := O1.q hQ
          replace O2 := O2.q hQ
          replace O3 := O3.q hQ
          have hbx : w'.cell? ⟨gB, 0, none⟩ = some (.slice (some ⟨g2, 0, none⟩) n n) := (E.of_q hQ).cell (World.block_lt_of_cell? _ _ hbox) ▸ hbox
          replace hE := hE.q hQ
          obtain ⟨_, _, _, _, _, c1, f1⟩ := O1.getg hjn
          obtain ⟨_, _, _, _, _, c2, f2⟩ := O2.getg hjn
          obtain ⟨_, _, _, _, _, c3, f3⟩ := O3.getg hjn
          clear hbox hck
          have hjI : (j : Int) < (n : Int) := by omega
          go_wp2_with fail
          go_region
          go_wp2_with fail
          have G1 := grown_set w' g1 j (.int .i64 q)
          have G2 := grown_set (w'.setCell ⟨g1, j, none⟩ (.int .i64 q)) g2 j (.int .u64 r)
          have G3 := grown_set ((w'.setCell ⟨g1, j, none⟩ (.int .i64 q)).setCell ⟨g2, j, none⟩ (.int .u64 r)) g3 j (.int .i64 (j : Int))
          have P1 := ((O1.set j q (wf_of_i64 (by omega) (by omega))).keptN G2 d12).keptN G3 d13
          have P2 := ((O2.keptN G1 d12.symm).set j r (WalkArith.wf_u64 ⟨by omega, by omega⟩)).keptN G3 d23
          have P3 := ((O3.keptN G1 d13.symm).keptN G2 d23.symm).set j (j : Int) (wf_of_i64 (by omega) (by omega))
          have PB := cell_grown (cell_grown (cell_grown hbx G1 d1B.symm) G2 d2B.symm) G3 dB3
          rw [HFQ.out] at P1
          rw [HFR.out] at P2
          rw [HFO.out] at P3
          have hle1 : w.heap.size ≤ g1 := by rw [HG1.out]; exact Nat.le_refl _
          have PE := ((hE.setCell (p := ⟨g1, j, none⟩) hle1 (.int .i64 q)).setCell (p := ⟨g2, j, none⟩) (Nat.le_trans hle1 l2) (.int .u64 r)).setCell (p := ⟨g3, j, none⟩) (Nat.le_trans hle1 l3) (.int .i64 (j : Int))
          generalize ((w'.setCell ⟨g1, j, none⟩ (.int .i64 q)).setCell ⟨g2, j, none⟩ (.int .u64 r)).setCell ⟨g3, j, none⟩ (.int .i64 (j : Int)) = wz at *
          have Qd := (Q.refl wz).drew
          clear G1 G2 G3
          go_roundw
          case rel => exact ⟨j + 1, L - q, by omega, by go_num, rfl, hLn, by omega, HLs, P1.q Qd, P2.q Qd, P3.q Qd, PB, PE.q Qd⟩
          case measure => simp [intOf]; omega
        · rw [fillL_end HQL.out (by omega)] at O1
          rw [fillL_end HRL.out (by omega)] at O2
          rw [fillL_end (by simp) (by omega)] at O3
          have hLe : L = t - (quos t s ws).sum := by rw [HL.out, List.take_of_length_le (by rw [HQL.out]; omega)]
          have hLn : L.toNat = leftS t s ws := by rw [hLe]; rfl
          have hLN : L.toNat ≤ n := by rw [hLn, ← h.len]; exact hLl.out
          obtain ⟨M, hM⟩ : ∃ M : Nat, L = M := ⟨L.toNat, by omega⟩
          subst hM
          rw [Int.toNat_natCast] at hLn hLN
          have HLM := Lib.hid hLn
          clear hLn hLe HL
          have HSo := Lib.hid (splitSort_c gB g2 n n g3 n g1 (rems t s ws) wr hn0 hn hbox O2.reads O3 dB3 d23)
          go_wp2_with fail
          refine HSo.out.mono ?_
          rintro e w5 ⟨rfl, P3, hG⟩
          have P1 := O1.keptN hG d13
          have hE5 := hE.grown hG (fun k hk => by injection hk with hk; rw [← hk, HG1.out]; exact l3)
          clear HSo O1 O2 O3 hbox hE hG
          have HOL := Lib.hid (show (ordL (rems t s ws)).length = n by rw [ordL_len, HRL.out])
          have HQr := Lib.hid (quos_le HP.out)
          rw [HSe.out] at HQr
          have HFin := Lib.hid (show (splitL t ws, (0 : Int)) = (bump (quos t s ws) ((ordL (rems t s ws)).take M), 0) by unfold splitL; rw [HSe.out, HLM.out])
          go_wp2_with fail
          go_loopw [86] (fun ti wr => ∃ i : Nat, i ≤ M ∧ ti = .int .i64 i ∧ Own .i64 3 wr g1 (some ⟨g1, 0, none⟩) n n (bump (quos t s ws) ((ordL (rems t s ws)).take i)) ∧ Own .i64 3 wr g1 (some ⟨g3, 0, none⟩) n n ((ordL (rems t s ws)).map fun i : Nat => (i : Int)) ∧ E w wr) (fun ti _ => M - (intOf ti).toNat)
          case atStart => exact ⟨0, Nat.zero_le _, rfl, by simpa [bump] using P1, P3, hE5⟩
          case round =>
            clear P1 P3 hE5
            obtain ⟨i, hi, rfl, P1, P3, hE⟩ := hrel
            by_cases him : i < M
            · obtain ⟨x, _, _, hx, _, c3, f3⟩ := P3.getg (i := i) (by omega)
              rw [List.getElem?_map] at hx
              obtain ⟨m, hm', hxm⟩ := Option.map_eq_some_iff.1 hx
              subst hxm
              have hmn : m < n := by have := ordL_mem.1 (List.mem_of_getElem? hm'); rwa [HRL.out] at this
              obtain ⟨y, _, _, hy, _, c1, f1⟩ := P1.getg hmn
              obtain ⟨y0, y1⟩ := bump_le HQr.out ((ordL_nodup _).sublist (List.take_sublist _ _)) hy
              have HB := Lib.hid (bump_step hm' hy)
              have hmI : (m : Int) < (n : Int) := by omega
              have hiI : (i : Int) < (n : Int) := by omega
              clear hx hm' hy
              go_wp2_with fail
              have G1 := grown_set wr g1 m (.int .i64 (y + 1))
              have P1' := P1.set m (y + 1) (wf_of_i64 (by omega) (by omega))
              have P3' := P3.keptN G1 d13.symm
              rw [HB.out] at P1'
              have PE := hE.setCell (p := ⟨g1, m, none⟩) (show w.heap.size ≤ g1 by rw [HG1.out]; exact Nat.le_refl _) (.int .i64 (y + 1))
              clear G1
              go_roundw
              case rel => exact ⟨i + 1, by omega, by go_num, P1', P3', PE⟩
              case measure => simp [intOf]; omega
            · obtain rfl : i = M := by omega
              go_wp2_with fail
              go_ret2
              exact RetOwnErr.mk_ HFin.out (HG1.out ▸ P1) hE
theorem split_c (t : Int) (A : Option Addr) (n c : Nat) (ws : List Int) (w : World) (h : Nums .i64 w A n c ws) (hn : n ≤ 1048576) :
    Calls Try.prog 45 #[.int .i64 t, .slice A n c] w (RetOwnErr .i64 3 w (splitS t ws)) := by
  unfold splitS
  cases hok : splitOk t ws
  · refine (split_no t A n c ws w h hok).mono ?_
    rintro e w' ⟨rfl, rfl⟩
    exact RetOwnErr.mk_ rfl (Own.nil _ _ _ _) (E.refl _)
  · exact split_yes t A n c ws w h hok hn
end Go.Proofs.Ytbpfdogjjoceaaa
