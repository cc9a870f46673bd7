/- The closure join: it finds a group. -/
import Derived.Test.YtpbkfpkgbfifaaaKJa
namespace Go.Proofs.Ytpbkfpkgbfifaaa
open Go.RowKit

theorem keys_take (l : List Bd) (i k : Nat) : (keysOf l i).take (k + 1) = (false, (l.getD i bd0).1) :: ((l.getD i bd0).2.2.take k).map fun t => (true, t) := by
  unfold keysOf; rw [List.take_succ_cons, List.map_take]
theorem keys_snoc {l : List Bd} {i k : Nat} {t : Int} (h : (l.getD i bd0).2.2[k]? = some t) : (keysOf l i).take (k + 1 + 1) = (keysOf l i).take (k + 1) ++ [(true, t)] := by
  rw [keys_take, keys_take, List.take_add_one, h]; simp
def JO (W0 : World) (b0 Bg gs : Nat) (mb nb : Bool → Nat) (r : Key → Option Value) (n : Nat) (W : World) (Ag : Option Addr) (s : JS) (W' : World) : Prop :=
  ∃ Ag' cg', JT W0 b0 Bg gs mb nb r n W' Ag' cg' s ∧ newer W Ag Ag' ∧ Ex (fun j => XJ Bg gs mb j ∨ ob Ag = some j) W W'
set_option maxHeartbeats 8000000 in
set_option maxRecDepth 100000 in
theorem join_c {w W0 : World} {b0 Bs Bg Bb Bl Bt Bj gs : Nat} {mb nb : Bool → Nat} {r : Key → Option Value} {A : Option Addr} {n c : Nat} {l : List Bd} (jx : JX w W0 b0 Bs Bg Bb Bl Bt Bj gs mb nb r A n c l) (hn : n ≤ 1000) (hlt : ∀ x ∈ l, x.2.2.length ≤ 1000) :
    ∀ (m i : Nat) (s : JS) (W : World) (Ag : Option Addr) (cg : Nat), i < n → un n s.S ≤ m → JI l s → JT W0 b0 Bg gs mb nb r n W Ag cg s →
      Calls Try.prog 57 #[.int .i64 i, ptr Bs, ptr Bg, ptr Bb, ptr Bl, ptr Bt, ptr Bj] W fun e W' => e = .returned (.tuple #[]) ∧ JO W0 b0 Bg gs mb nb r n W Ag (joinF l m i s) W' := by
  intro m
  induction m with
  | zero =>
    intro i s W Ag cg hi hu hJ hT
    have hl := jx.bids.len
    have hc : s.S.contains i = true := by
      by_cases e : i ∈ s.S
      · simpa using e
      · have := un_cons hi e; omega
    obtain ⟨c1, c2⟩ := hT.seen hi
    rw [hc] at c1
    obtain ⟨d1, d2, d3, d4, d5, d6, d7⟩ := jx.cells hT
    have HT := Lib.hid hT
    have hiI : (i : Int) < (n : Int) := by omega
    clear hT
    unfold ptr at *
    go_enter Try.func57, Try.ntmps57
    go_wp2_with fail
    refine bodyPost_ret (results_none rfl _ _ _) rfl ?_
    exact ⟨rfl, Ag, cg, HT.out, newer.refl _ _, Ex.refl _ _⟩
  | succ m ih =>
    intro i s W Ag cg hi hu hJ hT
    have hl := jx.bids.len
    obtain ⟨c1, c2⟩ := hT.seen hi
    obtain ⟨d1, d2, d3, d4, d5, d6, d7⟩ := jx.cells hT
    have hiI : (i : Int) < (n : Int) := by omega
    have hX0 : ∀ i, XJ Bg gs mb i → i < b0 := fun i x => (jx.wx i x).2.1
    have h0 := jx.sz
    by_cases hc : s.S.contains i = true
    · rw [joinF_seen _ _ _ _ hc]
      rw [hc] at c1
      have HT := Lib.hid hT
      clear hT ih
      unfold ptr at *
      go_enter Try.func57, Try.ntmps57
      go_wp2_with fail
      refine bodyPost_ret (results_none rfl _ _ _) rfl ?_
      exact ⟨rfl, Ag, cg, HT.out, newer.refl _ _, Ex.refl _ _⟩
    · have hc' : s.S.contains i = false := by simpa using hc
      have hni : i ∉ s.S := by simpa using hc
      rw [joinF_new _ _ _ _ hc']
      rw [hc'] at c1
      have IH := Lib.hid ih
      have hT1 := hT.mark i (hX0 gs (.inr (.inl rfl)))
      have hXm : Ex (fun j => XJ Bg gs mb j ∨ ob Ag = some j) W (W.setCell ⟨gs, i, none⟩ (.bool true)) := (Ex.refl _ W).setCell ⟨gs, i, none⟩ (.inr (.inl (.inr (.inl rfl)))) _
      obtain ⟨e1, e2, e3, e4, e5, e6, e7⟩ := jx.cells hT1
      have hGl : s.G.length ≤ n := nodup_len hJ.nd (fun x hx => by have := hJ.lt x (hJ.gs x hx); omega)
      have hszm : b0 ≤ (W.setCell ⟨gs, i, none⟩ (.bool true)).heap.size := by have := hT1.ex.size; omega
      obtain ⟨fin, hfin⟩ : ∃ fin, joins l m (oth l (keysOf l i) ([], s.D)).1 ⟨i :: s.S, s.G ++ [i], (oth l (keysOf l i) ([], s.D)).2⟩ = fin := ⟨_, rfl⟩
      have HFIN := Lib.hid hfin
      rw [hfin]
      clear hfin ih
      unfold ptr at *
      go_enter Try.func57, Try.ntmps57
      go_upto_region 2 with fail
      clear d1 d2 d3 d4 d5 d6 d7 c1 c2
      generalize W.setCell ⟨gs, i, none⟩ (.bool true) = W1 at *
      have hgo1 : Own .i64 3 W1 b0 Ag s.G.length cg (ints s.G) := hT1.go
      go_wp2_with (first | (refine wpList_app1n intTk _ rfl _ _ rfl b0 _ _ _ _ rfl hgo1 (i : Int) rfl (wf_of_i64 (by omega) (by omega)) (by omega) hszm ?_; intro g' cg1 w4 hO4 hG4 hB4 hor4; obtain ⟨hT2, hX2, hn2⟩ := hT1.push hX0 h0 hO4 hG4 hor4; have b4 : w4.heap[Bg]? = some (.cells #[.slice Ag s.G.length cg] 22 (0, 0)) := (hG4.block Bg (lt_blk hT1.bg) (fun e => by rw [ob_eq] at e; have := (hT1.go.ltN _ e.symm).1; have := hX0 Bg (.inl rfl); omega)).trans hT1.bg; have f4 := frozen_of_row _ _ 0 _ _ b4; have k4 := cell_of_one b4; clear b4) | fail)
      clear e1 e2 e3 e4 e5 e6 e7 hgo1 f4 k4 hO4 hG4 hB4 hor4 hszm
      have hXW2 := hXm.trans hX2 (Z := fun j => XJ Bg gs mb j ∨ ob Ag = some j) (fun _ _ x => x) (fun _ _ x => x)
      have hnW2 : newer W Ag (some ⟨g', 0, none⟩) := (newer.refl W Ag).trans hXm.size hn2
      clear hXm hX2 hn2 hT1 hT
      generalize w4.setCell ⟨Bg, 0, none⟩ (.slice (some ⟨g', 0, none⟩) (s.G.length + 1) cg1) = W2 at *
      have hEW2 := jx.eW hT2
      obtain ⟨bb, o, x, A1, n1, c1, rfl, hb, hx, hv1, hv2, hN, hcs⟩ := jx.bids.item hi
      have hgx : l.getD i bd0 = x := by rw [List.getD_eq_getElem?_getD, hx]; rfl
      have hn1 : n1 ≤ 1000 := by rw [← hN.len]; exact hlt x (List.mem_of_getElem? hx)
      have HN := Lib.hid hN
      have HCS := Lib.hid hcs
      obtain ⟨p1, p2, p3⟩ := hcs W2 hEW2
      clear hx hcs hN
      obtain ⟨xb, xp, xl⟩ := x
      simp only at *
      have hdD : E W2 W2.drew := (E.refl _).drew
      obtain ⟨A0, n0, c0, r0, hN0, hn0, hA0⟩ := jx.row (hT2.e hdD) (false, xb)
      have hlk : (Instr.lookup 77 (.map (some (mb false))) (.int .i64 xb) false).run Try.prog W2.drew = .ok (.slice A0 n0 c0) W2.drew := by
        rw [(hT2.e hdD).look false hv1, ← r0]
      obtain ⟨e1, e2, e3, e4, e5, e6, e7⟩ := jx.cells hT2
      go_still_tail 7, (by kernel_rfl)
      go_wp2_with fail
      have hT3 := hT2.e hdD
      have hXW3 := hXW2.trans (Ex.of_e (X := fun _ => False) hdD) (Z := fun j => XJ Bg gs mb j ∨ ob Ag = some j) (fun _ _ x => x) (fun _ _ x => x.elim)
      clear hT2 hXW2 hEW2 hlk e1 e2 e3 e4 e5 e6 e7 p1 p2 p3 hdD r0
      generalize W2.drew = W3 at *
      have hEW3 := jx.eW hT3
      obtain ⟨p1, p2, p3⟩ := HCS.out W3 hEW3
      obtain ⟨e1, e2, e3, e4, e5, e6, e7⟩ := jx.cells hT3
      have hdD : E W3 W3.drew := (E.refl _).drew
      obtain ⟨W4, hrD, hT4, hX4⟩ := (hT3.e hdD).del jx.mne hX0 false hv1 0
      have hN4 := (hN0.e hdD).ex hX4 (fun b hb => (hA0 b hb).2.1)
      go_still_tail 6, (by kernel_rfl)
      have hEW4 := jx.eW hT4
      obtain ⟨q1, q2, q3⟩ := HCS.out W4 hEW4
      obtain ⟨f1, f2, f3, f4, f5, f6, f7⟩ := jx.cells hT4
      go_wp2_with fail
      have hl' : l.length = n := hl
      have hN4' := hN4
      have hXW4 : Ex (fun j => XJ Bg gs mb j ∨ ob Ag = some j) W W4 := hXW3.trans ((Ex.of_e (X := fun _ => False) hdD).trans hX4 (Z := XJ Bg gs mb) (fun _ _ x => x.elim) (fun _ _ x => x)) (fun _ _ x => x) (fun _ _ x => .inl x)
      have HQ0 := Lib.hid (show ((if s.D.contains (false, xb) then [] else rowK l n (false, xb)), s.D ++ [(false, xb)]) = oth l ((keysOf l i).take 1) ([], s.D) by
        rw [keys_take, hgx]
        simp only [List.take_zero, List.map_nil, oth, List.foldl_cons, List.foldl_nil, othStep, List.nil_append, hl'])
      clear hN4 hN0 hX4 hXW3 hrD hT3 hdD e1 e2 e3 e4 e5 e6 e7 p1 p2 p3 q1 q2 q3 f1 f2 f3 f4 f5 f6 f7 hEW3 hEW4 hl
      go_loopw [8, 43] (fun t8 ti wr => ∃ (k no co : Nat) (Ao : Option Addr) (q : List Nat × List Key), k ≤ n1 ∧ ti = .int .i64 k ∧ t8 = .slice Ao no co ∧ JT W0 b0 Bg gs mb nb r n wr (some ⟨g', 0, none⟩) cg1 ⟨i :: s.S, s.G ++ [i], q.2⟩ ∧
          Nums .i64 wr Ao no co (ints q.1) ∧ (∀ b, ob Ao = some b → 0 < no → b < wr.heap.size ∧ ¬ XJ Bg gs mb b ∧ b ≠ g') ∧ Ex (fun j => XJ Bg gs mb j ∨ ob Ag = some j) W wr ∧ no ≤ (k + 1) * 1000 ∧ Hid (q = oth l ((keysOf l i).take (k + 1)) ([], s.D))) (fun _ ti _ => n1 - (intOf ti).toNat)
      case atStart =>
        refine ⟨0, n0, c0, A0, _, Nat.zero_le _, rfl, rfl, hT4, hN4', fun b hb _ => ⟨?_, (hA0 b hb).2.1, ?_⟩, hXW4, by omega, HQ0.out⟩
        · have := (hA0 b hb).2.2; have := hT4.ex.size; omega
        · have := (hA0 b hb).2.2; have := (hT4.go.ltN g' rfl).1; omega
      case round =>
        obtain ⟨k, no, co, Ao, q, hk, rfl, rfl, hT5, hNo, hAo, hX5, hno, hq⟩ := hrel
        clear hT4 hN4' hA0 hXW4 HQ0
        have hE5 := jx.eW hT5
        by_cases hkl : (k : Int) < (n1 : Int)
        · obtain ⟨b2, o2, y, rfl, hb2, hy, hwy, hcy⟩ := (HN.out.e hE5).get (i := k) (by omega)
          have HK := Lib.hid (show oth l ((keysOf l i).take (k + 1 + 1)) ([], s.D) = othStep l q (true, y) by
            rw [keys_snoc (t := y) (by rw [hgx]; exact hy), oth_snoc, ← hq.out])
          clear hy
          obtain ⟨f1, f2, f3, f4, f5, f6, f7⟩ := jx.cells hT5
          have hdD : E wr wr.drew := (E.refl _).drew
          have hT5d := hT5.e hdD
          obtain ⟨Ar, nr, cr, rr, hNr, hnr, hAr⟩ := jx.row hT5d (true, y)
          have hlk : (Instr.lookup 77 (.map (some (mb true))) (.int .i64 y) false).run Try.prog wr.drew = .ok (.slice Ar nr cr) wr.drew := by
            rw [hT5d.look true hwy, ← rr]
          have HC := Lib.hid (clip_c Ao no co (ints q.1) wr.drew (hNo.e hdD))
          obtain ⟨An, cn, w6, hrA, hNn, hE6, hAn⟩ := run_appClip wr.drew 22 Ao no (ints q.1) (hNo.e hdD).clip Ar nr cr _ hNr (by omega)
          obtain ⟨w7, hrD, hT7, hX7⟩ := (hT5d.e hE6).del jx.mne hX0 true hwy 0
          go_upto_region 8 with fail
          refine wp_region_still_tail 5 (by kernel_rfl) (by kernel_rfl) ?_
          simp only [List.take_succ_cons, List.take_zero, List.drop_succ_cons, List.drop_zero]
          still_step
          still_call (HC.out.mono (fun e w' h => ⟨h.1, h.2.symm⟩))
          still_step
          still_step
          still_step
          refine wpStill_nil ?_
          refine wpList_app_run rfl _ _ rfl rfl rfl hrA ?_
          obtain ⟨h1, h2, h3, h4, h5, h6, h7⟩ := jx.cells (hT5d.e hE6)
          have hAn' : ∀ b, ob An = some b → 0 < no + nr → b < w7.heap.size ∧ ¬ XJ Bg gs mb b ∧ b ≠ g' := by
            intro b hb h0
            have hs7 := hX7.size
            have hs6 := hE6.le
            rcases hAn with ⟨e, e0⟩ | e
            · rw [e] at hb
              obtain ⟨a1, a2, a3⟩ := hAo b hb (by omega)
              exact ⟨Nat.lt_of_lt_of_le a1 (Nat.le_trans hs6 hs7), a2, a3⟩
            · rw [e] at hb
              have hbe : wr.heap.size = b := by injection hb
              have hlt7 : wr.heap.size < w6.heap.size := by
                obtain ⟨_, _, e', hlt, _⟩ := hNn.at_ h0
                rw [e] at e'
                injection e' with e'
                injection e' with e'
                rw [← e'] at hlt
                exact hlt
              have hg' := (hT5.go.ltN g' rfl).2
              have hs5 := hT5.ex.size
              exact ⟨by omega, fun x => by have := hX0 b x; omega, by omega⟩
          have HQ' := Lib.hid (show ints q.1 ++ ints (if q.2.contains (true, y) then [] else rowK l n (true, y)) = ints (othStep l q (true, y)).1 by
            unfold othStep ints; rw [hl', List.map_append])
          have hN7 : Nums .i64 w7 An (no + nr) cn (ints (othStep l q (true, y)).1) := by
            rw [← HQ'.out]
            exact hNn.exP hX7 (fun h0 b hb => (hAn' b hb h0).2.1)
          have hX7' : Ex (fun j => XJ Bg gs mb j ∨ ob Ag = some j) W w7 := hX5.trans ((Ex.of_e (X := fun _ => False) (hdD.trans hE6)).trans hX7 (Z := XJ Bg gs mb) (fun _ _ x => x.elim) (fun _ _ x => x)) (fun _ _ x => x) (fun _ _ x => .inl x)
          clear hNn hAn hNr hAr hlk rr hT5d hX7 HC hAo hNo f1 f2 f3 f4 f5 f6 f7 hT5 hX5 hq
          go_wp2_with fail
          go_roundw
          case rel => exact ⟨k + 1, no + nr, cn, An, othStep l q (true, y), by omega, by go_num, rfl, hT7, hN7, hAn', hX7', by omega, HK.out.symm⟩
          case measure => simp [intOf]; omega
        · have hkn : k = n1 := by omega
          subst hkn
          have HQ := Lib.hid (show q = oth l (keysOf l i) ([], s.D) by
            rw [hq.out, List.take_of_length_le]
            unfold keysOf
            rw [List.length_cons, List.length_map, hgx, HN.out.len]; exact Nat.le_refl _)
          have HFIN2 := Lib.hid (show joins l m q.1 ⟨i :: s.S, s.G ++ [i], q.2⟩ = fin by rw [HQ.out]; exact HFIN.out)
          have hi1 : JI l ⟨i :: s.S, s.G ++ [i], q.2⟩ := by
            have hD := oth_D l (keysOf l i) ([], s.D)
            rw [← HQ.out] at hD
            refine ⟨fun x hx k hk => ?_, fun x hx => ?_, fun x hx => ?_, ?_⟩
            · rw [hD]
              rcases List.mem_cons.1 hx with h | h
              · subst h; exact List.mem_append_right _ hk
              · exact List.mem_append_left _ (hJ.keys x h k hk)
            · rcases List.mem_cons.1 hx with h | h
              · subst h; omega
              · exact hJ.lt x h
            · rcases List.mem_append.1 hx with h | h
              · exact List.mem_cons_of_mem _ (hJ.gs x h)
              · rw [List.mem_singleton.1 h]; exact List.mem_cons_self
            · refine List.nodup_append.2 ⟨hJ.nd, by simp, fun x hx y hy => ?_⟩
              rw [List.mem_singleton.1 hy]
              exact fun e => hni (e ▸ hJ.gs x hx)
          have hu1 : un n (i :: s.S) ≤ m := by have := un_cons hi hni; omega
          have HO := Lib.hid (show ∀ j ∈ q.1, j < n by
            intro j hj
            rw [HQ.out] at hj
            rcases oth_from l _ _ j hj with h | ⟨kk, h1, h2⟩
            · cases h
            · rw [← hl']; exact (mem_rowK.1 h2).1)
          have hqn : q.1.length = no := by have := hNo.len; rw [ints_len] at this; exact this
          clear hq HQ HFIN
          go_wp2_with fail
          go_loopw [58] (fun ti wr => ∃ (k cg2 : Nat) (Ag2 : Option Addr) (t : JS), k ≤ no ∧ ti = .int .i64 k ∧ JT W0 b0 Bg gs mb nb r n wr Ag2 cg2 t ∧ JI l t ∧ un n t.S ≤ m ∧ newer W Ag Ag2 ∧ Nums .i64 wr Ao no co (ints q.1) ∧ (∀ b, ob Ao = some b → 0 < no → b < wr.heap.size ∧ ¬ XJ Bg gs mb b ∧ ob Ag2 ≠ some b) ∧
              Ex (fun j => XJ Bg gs mb j ∨ ob Ag = some j) W wr ∧ Hid (joins l m (q.1.drop k) t = fin)) (fun ti _ => no - (intOf ti).toNat)
          case atStart =>
            refine ⟨0, cg1, some ⟨g', 0, none⟩, _, Nat.zero_le _, rfl, hT5, hi1, hu1, hnW2, hNo, fun b hb h0 => ?_, hX5, HFIN2.out⟩
            obtain ⟨a1, a2, a3⟩ := hAo b hb h0
            exact ⟨a1, a2, fun e => a3 (by injection e with e; exact e.symm)⟩
          case round =>
            clear hT5 hi1 hu1 hnW2 hNo hAo hX5 HFIN2 hE5
            obtain ⟨k2, cg2, Ag2, t, hk2, rfl, hT6, hJ6, hu6, hn6, hN6, hA6, hX6, hf6⟩ := hrel
            obtain ⟨f1, f2, f3, f4, f5, f6, f7⟩ := jx.cells hT6
            by_cases hkl2 : (k2 : Int) < (no : Int)
            · obtain ⟨b2, o2, y, rfl, hb2, hy, hwy, hcy⟩ := hN6.get (i := k2) (by omega)
              obtain ⟨j, hj⟩ : ∃ j, q.1[k2]? = some j := ⟨_, List.getElem?_eq_getElem (by omega)⟩
              have hyj : y = (j : Int) := by
                unfold ints at hy
                rw [List.getElem?_map, hj] at hy
                injection hy with hy; exact hy.symm
              subst hyj
              have hjn : j < n := HO.out j (List.mem_of_getElem? hj)
              have HF7 := Lib.hid (show joins l m (q.1.drop (k2 + 1)) (joinF l m j t) = fin by rw [← hf6.out, drop_at hj]; rfl)
              have HC := Lib.hid (IH.out j t wr Ag2 cg2 hjn hu6 hJ6 hT6)
              obtain ⟨hP, _⟩ := joinF_post l m j t (by omega) (by rw [hl']; exact hu6) hJ6
              have hu7 : un n (joinF l m j t).S ≤ m := Nat.le_trans (un_mono hP.sS) hu6
              have hJ7 := hP.inv
              generalize joinF l m j t = t2 at *
              have hcall := Try.call57
              unfold ptr at f5
              clear hy hj hwy hf6 hP
              go_wp2_with fail
              refine HC.out.mono ?_
              rintro e W7 ⟨rfl, Ag7, cg7, hT7, hn7, hX7⟩
              have hA7 : ∀ b, ob (some (⟨b2, o2, none⟩ : Addr)) = some b → 0 < no → b < W7.heap.size ∧ ¬ XJ Bg gs mb b ∧ ob Ag7 ≠ some b := fun b hb h0 => by
                obtain ⟨a1, a2, a3⟩ := hA6 b hb h0
                exact ⟨Nat.lt_of_lt_of_le a1 hX7.size, a2, hn7.ne a1 a3⟩
              have hN7 := hN6.exP hX7 (fun h0 b hb x => by
                obtain ⟨a1, a2, a3⟩ := hA6 b hb h0
                exact x.elim a2 a3)
              have hX8 : Ex (fun j => XJ Bg gs mb j ∨ ob Ag = some j) W W7 := hX6.trans hX7 (fun _ _ x => x) (fun i hi x => by
                rcases x with x | x
                · exact .inl x
                · rcases hn6 with h | h
                  · exact .inr (h ▸ x)
                  · have := h i x; omega)
              have hn8 := hn6.trans hX6.size hn7
              clear HC hT6 hJ6 hu6 hn6 hN6 hA6 hX6 hn7 hX7 f1 f2 f3 f4 f5 f6 f7
              go_wp2_with fail
              go_roundw
              case rel => exact ⟨k2 + 1, cg7, Ag7, t2, by omega, by go_num, hT7, hJ7, hu7, hn8, hN7, hA7, hX8, HF7.out⟩
              case measure => simp [intOf]; omega
            · have hkn2 : k2 = no := by omega
              subst hkn2
              have HT := Lib.hid (show t = fin by
                rw [← hf6.out, List.drop_eq_nil_of_le (by omega)]; rfl)
              go_wp2_with fail
              go_end0
              exact ⟨rfl, Ag2, cg2, by rw [← HT.out]; exact hT6, hn6, hX6⟩
end Go.Proofs.Ytpbkfpkgbfifaaa
