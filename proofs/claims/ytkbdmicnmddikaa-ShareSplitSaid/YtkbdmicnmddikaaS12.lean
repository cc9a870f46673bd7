/- Contract of the reference's Split. -/
import Derived.Test.YtkbdmicnmddikaaS11
import Derived.Outline
namespace Go.Proofs.Ytkbdmicnmddikaa
open Go.RowKit

/-- the sum of the first k weights; it may be over the limit by the last one -/
theorem splitOk_far {t : Int} {ws : List Int} {k : Nat} {s : Int} (h : SumAt ws k s) (hs : 1152921504606846976 < s) : splitOk t ws = false := by
  cases hc : splitOk t ws
  · rfl
  · have h1 := h.le (splitOk_all hc)
    have h2 := (splitPre_of hc).s1
    omega
theorem splitOk_bad {t : Int} {ws : List Int} {x : Int} (hx : x ∈ ws) (h : okU x = false) : splitOk t ws = false := by
  cases hc : splitOk t ws
  · rfl
  · have := List.all_eq_true.1 (splitOk_all hc) x hx
    rw [h] at this; cases this

set_option maxHeartbeats 1000000 in
set_option maxRecDepth 100000 in
theorem refSplit_no (t : Int) (A : Option Addr) (n c : Nat) (ws : List Int) (w : World) (h : Nums .i64 w A n c ws) (hno : splitOk t ws = false) :
    Calls Try.prog 20 #[.int .i64 t, .slice A n c] w fun e w' => e = .returned (.tuple #[.slice none 0 0, .int .i64 1]) ∧ w = w' := by
  have hm := h.n63
  have HN := Lib.hid hno
  clear hno
  go_enter Try.func20, Try.ntmps20
  go_wp2_with fail
  go_loop [6, 7] (fun ts ti => ∃ (k : Nat) (s : Int), k ≤ n ∧ ti = .int .i64 k ∧ ts = .int .i64 s ∧ 0 ≤ s ∧ s ≤ 1152922604118474752 ∧ Hid (SumAt ws k s)) (fun _ ti => n - (intOf ti).toNat)
  case atStart => exact ⟨0, 0, Nat.zero_le _, rfl, rfl, by omega, by omega, SumAt.start ws⟩
  case round =>
    obtain ⟨k, s, hk, rfl, rfl, s0, s1, hS⟩ := hrel
    by_cases hlt : k < n
    · obtain ⟨b, o, x, rfl, hb, hx, hwx, hck⟩ := h.get hlt
      cases hox : okU x
      · clear hx hwx
        go_wp2_with (go_at_call 33; refine (refAmount_c _ _).mono ?_; rintro e w' ⟨rfl, rfl⟩)
        go_ret2
        exact ⟨rfl, rfl⟩
      · have HS := Lib.hid (hS.out.step hx hox)
        obtain ⟨x0, x1⟩ := okU_iff.1 hox
        clear hx hwx
        by_cases hbig : 1152921504606846976 < s
        · have db : decide (1152921504606846976 < s) = true := by simpa using hbig
          go_wp2_with (go_at_call 33; refine (refAmount_c _ _).mono ?_; rintro e w' ⟨rfl, rfl⟩)
          go_ret2
          exact ⟨rfl, rfl⟩
        · have db : decide (1152921504606846976 < s) = false := by simpa using hbig
          go_wp2_with (go_at_call 33; refine (refAmount_c _ _).mono ?_; rintro e w' ⟨rfl, rfl⟩)
          go_round
          case rel => exact ⟨k + 1, s + x, by omega, by go_num, rfl, by omega, by omega, HS⟩
          case measure => simp [intOf]; omega
    · obtain ⟨f1, f2⟩ := hS.out.all (by rw [h.len]; omega)
      cases ht : okU t
      · clear f1 f2
        go_wp2_with (go_at_call 33; refine (refAmount_c _ _).mono ?_; rintro e w' ⟨rfl, rfl⟩)
        go_ret2
        exact ⟨rfl, rfl⟩
      · by_cases hbig : 1152921504606846976 < s
        · have hs0 : (s == 0) = false := by simp; omega
          clear f1 f2
          go_wp2_with (go_at_call 33; refine (refAmount_c _ _).mono ?_; rintro e w' ⟨rfl, rfl⟩)
          go_ret2
          exact ⟨rfl, rfl⟩
        · obtain rfl : s = 0 := by rw [f1]; exact splitOk_fin ht HN.out f2 (by rw [← f1]; omega)
          clear f1 f2
          go_wp2_with (go_at_call 33; refine (refAmount_c _ _).mono ?_; rintro e w' ⟨rfl, rfl⟩)
          go_ret2
          exact ⟨rfl, rfl⟩

theorem take_snoc_get {l : List Int} {k : Nat} {x : Int} (h : l[k]? = some x) : l.take (k + 1) = l.take k ++ [x] := by
  obtain ⟨hk, rfl⟩ := List.getElem?_eq_some_iff.1 h
  rw [List.take_succ_eq_append_getElem hk]

set_option maxHeartbeats 4000000 in
set_option maxRecDepth 100000 in
theorem refSplit_yes (t : Int) (A : Option Addr) (n c : Nat) (ws : List Int) (w : World) (h : Nums .i64 w A n c ws) (hok : splitOk t ws = true) (hn : n ≤ 1048576) :
    Calls Try.prog 20 #[.int .i64 t, .slice A n c] w (RetOwnErr .i64 3 w (splitL t ws, 0)) := by
  have hm := h.n63
  have hpre := splitPre_of hok
  have hall := splitOk_all hok
  have ht : okU t = true := okU_iff.2 ⟨hpre.t0, hpre.t1⟩
  obtain ⟨t0, t1⟩ := okU_iff.1 ht
  have s0 := hpre.s0
  have s1 := hpre.s1
  have hn0 : 0 < n := by
    rcases Nat.eq_zero_or_pos n with h0 | h0
    · have : ws = [] := List.eq_nil_of_length_eq_zero (by rw [h.len, h0])
      rw [this] at s0; simp at s0
    · exact h0
  have HP := Lib.hid hpre
  have HA := Lib.hid hall
  clear hok hpre hall
  go_enter Try.func20, Try.ntmps20
  go_wp2_with fail
  go_loop [6, 7] (fun ts ti => ∃ (k : Nat) (s : Int), k ≤ n ∧ ti = .int .i64 k ∧ ts = .int .i64 s ∧ 0 ≤ s ∧ s ≤ 1152921504606846976 ∧ Hid (SumAt ws k s)) (fun _ ti => n - (intOf ti).toNat)
  case atStart => exact ⟨0, 0, Nat.zero_le _, rfl, rfl, by omega, by omega, SumAt.start ws⟩
  case round =>
    obtain ⟨k, s, hk, rfl, rfl, z0, z1, hS⟩ := hrel
    by_cases hlt : k < n
    · obtain ⟨b, o, x, rfl, hb, hx, hwx, hck⟩ := h.get hlt
      have hox : okU x = true := List.all_eq_true.1 HA.out x (List.mem_of_getElem? hx)
      have HS := Lib.hid (hS.out.step hx hox)
      obtain ⟨x0, x1⟩ := okU_iff.1 hox
      have hle : s + x ≤ 1152921504606846976 := by have := HS.out.le HA.out; omega
      have db : decide (1152921504606846976 < s) = false := by simpa using z1
      clear hx hwx
      go_wp2_with (go_at_call 33; refine (refAmount_c _ _).mono ?_; rintro e w' ⟨rfl, rfl⟩)
      go_round
      case rel => exact ⟨k + 1, s + x, by omega, by go_num, rfl, by omega, by omega, HS⟩
      case measure => simp [intOf]; omega
    · obtain ⟨f1, _⟩ := hS.out.all (by rw [h.len]; omega)
      obtain ⟨S, hSe⟩ : ∃ S, ws.sum = S := ⟨_, rfl⟩
      rw [hSe] at f1 s0 s1
      subst f1
      have HSe := Lib.hid hSe
      have hs0 : (s == 0) = false := by simp; omega
      clear hSe hS
      have db : decide (1152921504606846976 < s) = false := by simpa using s1
      have HQL := Lib.hid (show (quos t s ws).length = n by rw [quos_len, h.len])
      have HRL := Lib.hid (show (rems t s ws).length = n by rw [rems_len, h.len])
      have hLf := Lib.hid (left_facts (t := t) (ws := ws) HP.out.s0)
      have hLl := Lib.hid (left_le (t := t) (ws := ws) HP.out.s0)
      have HQr := Lib.hid (quos_le HP.out)
      have HRr := Lib.hid (rems_nonneg (t := t) HP.out.s0 (ws := ws))
      rw [HSe.out] at hLf hLl HQr HRr
      go_wp2_with (go_at_call 33; refine (refAmount_c _ _).mono ?_; rintro e w' ⟨rfl, rfl⟩)
      go_loopw [10, 11, 12, 13] (fun tv tr tl ti wr => ∃ (j co cr : Nat) (Ao Ar : Option Addr) (L : Int), j ≤ n ∧ ti = .int .i64 j ∧ tv = .slice Ao j co ∧ tr = .slice Ar j cr ∧ tl = .int .i64 L ∧ 0 ≤ L ∧ L ≤ t ∧ Hid (L = t - ((quos t s ws).take j).sum) ∧ Own .i64 3 wr w.heap.size Ao j co ((quos t s ws).take j) ∧ Own .i64 3 wr w.heap.size Ar j cr ((rems t s ws).take j) ∧ apartS Ao Ar ∧ E w wr) (fun _ _ _ ti _ => n - (intOf ti).toNat)
      case atStart => exact ⟨0, 0, 0, none, none, t, Nat.zero_le _, rfl, rfl, rfl, rfl, t0, Int.le_refl _, show _ = _ by simp, by simpa using Own.nil _ _ _ _, by simpa using Own.nil _ _ _ _, apart_none _, E.refl _⟩
      case round =>
        obtain ⟨j, co, cr, Ao, Ar, L, hj, rfl, rfl, rfl, rfl, L0, L1, HL, O1, O2, hap, hE⟩ := hrel
        obtain ⟨wi, rfl⟩ : ∃ wo : World, wo = wr := ⟨_, rfl⟩
        have hle := hE.le
        by_cases hjn : j < n
        · obtain ⟨b, o, x, hA, hb, hx, hwx, hck⟩ := (h.e hE).get hjn
          subst hA
          have hxm := List.mem_of_getElem? hx
          obtain ⟨x0, x1⟩ := HP.out.w0 x hxm
          have hxs : x ≤ s := by have := le_sum (fun y hy => (HP.out.w0 y hy).1) hxm; rwa [HSe.out] at this
          have hqle := part_le t0 hxs s0
          have hq0 := Int.ediv_nonneg (Int.mul_nonneg t0 x0) (Int.le_of_lt s0)
          have hr0 := Int.emod_nonneg (t * x) (show s ≠ 0 by omega)
          have hr1 := Int.emod_lt_of_pos (t * x) s0
          have HD := Lib.hid (fun W => refDivide_t t x s W t0 (by omega) x0 (by omega) s0 s1 (by omega))
          have hqk : (quos t s ws)[j]? = some (t * x / s) := by simp [quos, hx]
          have hrk : (rems t s ws)[j]? = some (t * x % s) := by simp [rems, hx]
          have HFQ := Lib.hid (take_snoc_get hqk)
          have HFR := Lib.hid (take_snoc_get hrk)
          have HLs := Lib.hid (show L - t * x / s = t - ((quos t s ws).take (j + 1)).sum by
            rw [HFQ.out, List.sum_append, HL.out]; simp; omega)
          have hLn : 0 ≤ L - t * x / s := by
            have a1 := sum_take_le (fun x hx => (HQr.out x hx).1) (j + 1)
            have a2 := hLf.out.1
            have a3 := HLs.out
            omega
          clear hx hwx hxm hqk hrk
          generalize t * x / s = q at *
          generalize t * x % s = r at *
          have tok1 : True := trivial
          go_wp2_with (first
            | (go_at_call 35; refine (HD.out _).mono ?_; rintro e w' ⟨rfl, rfl⟩)
            | (at_builtin; have _t := tok1; refine wpList_app1n intT3 _ rfl _ _ rfl _ _ _ _ _ rfl O1 _ rfl (wf_of_i64 (by omega) (by omega)) (by omega) hle ?_; intro g' c3 w3 P1 hG3 hB3 hor3; clear tok1 _t; have P2 := O2.keptA hG3 hap.symm; have hap3 := apart_grow hap.symm (fun b hb => (O2.ltN b hb).2) hor3; have hle3 := Nat.le_trans hle hG3.size)
            | (at_builtin; refine wpList_app1n intT3 _ rfl _ _ rfl _ _ _ _ _ rfl P2 _ rfl (wf_of_i64 (by omega) (by omega)) (by omega) hle3 ?_; intro g'' c4 w4 R2 hG4 hB4 hor4; have R1 := P1.keptA hG4 hap3.symm; have hap4 := apart_grow hap3.symm (fun b hb => (P1.ltN b hb).2) hor4))
          rw [← HFQ.out] at R1
          rw [← HFR.out] at R2
          go_roundw
          case rel => exact ⟨j + 1, c3, c4, _, _, L - q, by omega, by go_num, rfl, rfl, rfl, hLn, by omega, HLs, R1, R2, hap4, (hE.up hB3).up hB4⟩
          case measure => simp [intOf]; omega
        · obtain rfl : j = n := by omega
          rw [List.take_of_length_le (by rw [HQL.out]; exact Nat.le_refl _)] at O1
          rw [List.take_of_length_le (by rw [HRL.out]; exact Nat.le_refl _)] at O2
          have hLe : L = t - (quos t s ws).sum := by rw [HL.out, List.take_of_length_le (by rw [HQL.out]; exact Nat.le_refl _)]
          have hLn : L.toNat = leftS t s ws := by rw [hLe]; rfl
          have hLN : L.toNat ≤ j := by rw [hLn, ← h.len]; exact hLl.out
          obtain ⟨M, hM⟩ : ∃ M : Nat, L = M := ⟨L.toNat, by omega⟩
          subst hM
          rw [Int.toNat_natCast] at hLn hLN
          have HFin := Lib.hid (show (splitL t ws, (0 : Int)) = (bump (quos t s ws) ((ordL (rems t s ws)).take M), 0) by unfold splitL; rw [HSe.out, hLn])
          have HOL := Lib.hid (show (ordL (rems t s ws)).length = j by rw [ordL_len, HRL.out])
          clear hLn hLe HL
          obtain ⟨go, _, rfl, hgo, _⟩ := O1.get (i := 0) hn0
          obtain ⟨gr, _, rfl, hgr, _⟩ := O2.get (i := 0) hn0
          have dne : go ≠ gr := fun e => hap go rfl (by rw [e]; rfl)
          have c63a := O1.reads.c63
          have c63b := O2.reads.c63
          clear hap
          go_wp2_with fail
          go_loopw [12, 17, 18] (fun tl _ _ wr => ∃ (k : Nat) (L : Int), k ≤ M ∧ tl = .int .i64 L ∧ Hid (L = (M : Int) - (k : Int)) ∧ Own .i64 3 wr w.heap.size (some ⟨go, 0, none⟩) j co (bump (quos t s ws) ((ordL (rems t s ws)).take k)) ∧ Own .i64 3 wr w.heap.size (some ⟨gr, 0, none⟩) j cr (mark (rems t s ws) ((ordL (rems t s ws)).take k)) ∧ E w wr) (fun tl _ _ _ => (intOf tl).toNat)
          case atStart => exact ⟨0, M, Nat.zero_le _, rfl, show _ = _ by omega, by simpa [bump] using O1, by simpa [mark] using O2, hE⟩
          case round =>
            clear O1 O2 hE hle
            obtain ⟨k, L, hk, rfl, HLk, O1, O2, hE⟩ := hrel
            obtain ⟨wa, rfl⟩ : ∃ wo : World, wo = wr := ⟨_, rfl⟩
            by_cases hkM : k < M
            · have hpos : 0 < L := by have := HLk.out; omega
              have hposd : decide (0 < L) = true := by simpa using hpos
              have hLM : L ≤ 1048576 := by have := HLk.out; omega
              obtain ⟨R, hR⟩ : ∃ R, mark (rems t s ws) ((ordL (rems t s ws)).take k) = R := ⟨_, rfl⟩
              rw [hR] at O2
              have HR := Lib.hid hR
              clear hR
              have hRd := O2.reads
              go_wp2_with fail
              go_loopw [17, 18] (fun tb ti wr => ∃ i b : Nat, 1 ≤ i ∧ i ≤ j ∧ b < i ∧ ti = .int .i64 i ∧ tb = .int .i64 b ∧ Hid (FirstMax R i b) ∧ Q wa wr) (fun _ ti _ => j - (intOf ti).toNat)
              case atStart => exact ⟨1, 0, by omega, by omega, by omega, rfl, rfl, FirstMax.start R, Q.refl _⟩
              case round =>
                obtain ⟨i, b, i1, i2, hbi, rfl, rfl, hFM, hq⟩ := hrel
                obtain ⟨wb, rfl⟩ : ∃ wo : World, wo = wr := ⟨_, rfl⟩
                by_cases hij : i < j
                · obtain ⟨b1, o1, x, e1, _, hx, _, cx⟩ := (hRd.q hq).get hij
                  obtain ⟨b2, o2, y, e2, _, hy, _, cy⟩ := (hRd.q hq).get (i := b) (by omega)
                  injection e1 with e1; injection e1 with e1 e1'; subst e1 e1'
                  injection e2 with e2; injection e2 with e2 e2'; subst e2 e2'
                  rw [Nat.zero_add] at cx cy
                  have hgx : R.getD i 0 = x := by rw [List.getD_eq_getElem?_getD, hx]; rfl
                  have hgy : R.getD b 0 = y := by rw [List.getD_eq_getElem?_getD, hy]; rfl
                  have hbI : (b : Int) < (j : Int) := by omega
                  by_cases hg : y < x
                  · have HF := Lib.hid (hFM.out.more (by rw [hgx, hgy]; exact hg))
                    have d1 : decide (y < x) = true := by simpa using hg
                    clear hx hy hgx hgy
                    go_wp2_with fail
                    go_quiet (fail)
                    go_wp2_with fail
                    go_roundw
                    case rel => exact ⟨i + 1, i, by omega, by omega, by omega, by go_num, rfl, HF, hq.drewN _⟩
                    case measure => simp [intOf]; omega
                  · have HF := Lib.hid (hFM.out.keep (by rw [hgx, hgy]; exact hg))
                    have d1 : decide (y < x) = false := by simpa using hg
                    clear hx hy hgx hgy
                    go_wp2_with fail
                    go_quiet (fail)
                    go_wp2_with fail
                    go_roundw
                    case rel => exact ⟨i + 1, b, by omega, by omega, by omega, by go_num, rfl, HF, hq.drewN _⟩
                    case measure => simp [intOf]; omega
                · obtain rfl : i = j := by omega
                  have hord : (ordL (rems t s ws))[k]? = some b := by
                    have hF := hFM.out
                    rw [← HR.out, ← HRL.out] at hF
                    exact ord_first (fun x hx => (HRr.out x hx).1) (by rw [HRL.out]; omega) hF
                  replace O1 := O1.q hq
                  replace O2 := O2.q hq
                  replace hE := hE.q hq
                  obtain ⟨y, _, _, hy, _, c1, f1⟩ := O1.getg (i := b) (by omega)
                  obtain ⟨_, _, _, _, _, c2, f2⟩ := O2.getg (i := b) (by omega)
                  obtain ⟨y0, y1⟩ := bump_le HQr.out ((ordL_nodup _).sublist (List.take_sublist _ _)) hy
                  have HB := Lib.hid (bump_step hord hy)
                  have HMk := Lib.hid (show R.set b (-1) = mark (rems t s ws) ((ordL (rems t s ws)).take (k + 1)) by
                    obtain ⟨hk', e'⟩ := List.getElem?_eq_some_iff.1 hord
                    rw [List.take_succ_eq_append_getElem hk', mark_snoc, e', HR.out])
                  have hbI : (b : Int) < (i : Int) := by omega
                  have G1 := grown_set wb go b (.int .i64 (y + 1))
                  have c2' := cell_grown c2 G1 dne.symm
                  have f2' : (wb.setCell ⟨go, b, none⟩ (.int .i64 (y + 1))).frozen? ⟨gr, b, none⟩ = false := by
                    have := (O2.keptN G1 dne.symm).getg (i := b) (by omega)
                    obtain ⟨_, _, _, _, _, _, f⟩ := this
                    exact f
                  have P1 := (O1.set b (y + 1) (wf_of_i64 (by omega) (by omega))).keptN (grown_set _ gr b (.int .i64 (-1))) dne
                  have P2 := (O2.keptN G1 dne.symm).set b (-1) (wf_of_i64 (by omega) (by omega))
                  rw [HB.out] at P1
                  rw [HMk.out] at P2
                  have PE := (hE.setCell (p := ⟨go, b, none⟩) hgo (.int .i64 (y + 1))).setCell (p := ⟨gr, b, none⟩) hgr (.int .i64 (-1))
                  clear hord hy G1
                  go_wp2_with fail
                  go_roundw
                  case rel => exact ⟨k + 1, L - 1, by omega, rfl, show _ = _ by have := HLk.out; omega, P1, P2, PE⟩
                  case measure => simp [intOf]; omega
            · obtain rfl : k = M := by omega
              obtain rfl : L = 0 := by have := HLk.out; omega
              go_wp2_with fail
              go_ret2
              exact RetOwnErr.mk_ HFin.out O1 hE
theorem refSplit_c (t : Int) (A : Option Addr) (n c : Nat) (ws : List Int) (w : World) (h : Nums .i64 w A n c ws) (hn : n ≤ 1048576) :
    Calls Try.prog 20 #[.int .i64 t, .slice A n c] w (RetOwnErr .i64 3 w (splitS t ws)) := by
  unfold splitS
  cases hok : splitOk t ws
  · refine (refSplit_no t A n c ws w h hok).mono ?_
    rintro e w' ⟨rfl, rfl⟩
    exact RetOwnErr.mk_ rfl (Own.nil _ _ _ _) (E.refl _)
  · exact refSplit_yes t A n c ws w h hok hn
end Go.Proofs.Ytkbdmicnmddikaa
