/- Lemmas of the claim, joined: GWd GHr GVf. No condition. -/
import Derived.Test.YtmeplpiamkaniaaGreatNB
import Derived.Test.YtmeplpiamkaniaaGreatNN
import Derived.Test.YtmeplpiamkaniaaGreatNT
namespace Go.Proofs.YtmeplpiamkaniaaGreat
set_option linter.unusedVariables false
set_option linter.unusedSimpArgs false
open Go.RowKit
set_option maxHeartbeats 400000 in
theorem mixR_c (a b : Int) (w : World) : Calls Tryz.prog 104 #[.int .u64 a, .int .u64 b] w fun e w' => e = .returned (.int .u64 (mixV a b)) ∧ w = w' := by
  obtain ⟨m, hm⟩ : ∃ m, IntKind.u64.wrap (bits .xor .u64 a b * 11400714819323198485) = m := ⟨_, rfl⟩
  have hr := wrapU_range (bits .xor .u64 a b * 11400714819323198485)
  rw [hm] at hr
  obtain ⟨m0, m1⟩ := hr
  have hq : m.tdiv 4294967296 = m / 4294967296 := Int.tdiv_eq_ediv_of_nonneg m0
  have HM := Lib.hid (show mixV a b = bits .xor .u64 m (m / 4294967296) by rw [mixV, mulF, hm])
  generalize mixV a b = v at *
  go_enter Tryz.func104, Tryz.ntmps104
  go_wp2
  go_ret
  exact ⟨ret_int HM.out.symm, rfl⟩
theorem u64R : IntT Tryz.prog 63 34 .u64 8 := ⟨Tryz.underlying63, by kernel_rfl, by decide⟩
def accW (j : Nat) : Int := [0, 119, 30575, 7827308, 2003790950].getD j 0
def flowB : List Int := [102, 108, 111, 119]
set_option linter.unusedSimpArgs false in
set_option maxHeartbeats 1000000 in
theorem wordsR_c (A : Option Addr) (c : Nat) (w : World) (h : Nums .u8 w A 4 c flowB) :
    Calls Tryz.prog 103 #[.slice A 4 c] w (RetOwn .u64 34 w [2003790950]) := by
  obtain ⟨b, o, rfl, hb, hc⟩ := h.at_ (by omega)
  have e0 : w.cell? ⟨b, o, none⟩ = some (.int .u8 102) := hc 0 (by simp [flowB])
  have e1 : w.cell? ⟨b, o + 1, none⟩ = some (.int .u8 108) := hc 1 (by simp [flowB])
  have e2 : w.cell? ⟨b, o + 2, none⟩ = some (.int .u8 111) := hc 2 (by simp [flowB])
  have e3 : w.cell? ⟨b, o + 3, none⟩ = some (.int .u8 119) := hc 3 (by simp [flowB])
  have HC := Lib.hid (fun W (hE : E w W) => show W.cell? ⟨b, o, none⟩ = some (.int .u8 102) ∧ W.cell? ⟨b, o + 1, none⟩ = some (.int .u8 108) ∧ W.cell? ⟨b, o + 2, none⟩ = some (.int .u8 111) ∧ W.cell? ⟨b, o + 3, none⟩ = some (.int .u8 119) from ⟨(hE.cell (p := ⟨b, _, none⟩) hb).trans e0, (hE.cell (p := ⟨b, _, none⟩) hb).trans e1, (hE.cell (p := ⟨b, _, none⟩) hb).trans e2, (hE.cell (p := ⟨b, _, none⟩) hb).trans e3⟩)
  clear h hc hb e0 e1 e2 e3
  go_enter Tryz.func103, Tryz.ntmps103
  go_upto_region 3 with fail
  go_loopw [3, 4] (fun t3 t4 wr => E w wr ∧ ((t4 = .int .i64 0 ∧ t3 = .slice none 0 0) ∨ (t4 = .int .i64 8 ∧ ∃ A c, t3 = .slice A 1 c ∧ Own .u64 34 wr w.heap.size A 1 c [2003790950]))) (fun _ t4 _ => 9 - (intOf t4).toNat)
  case atStart => exact ⟨E.refl _, .inl ⟨rfl, rfl⟩⟩
  case round =>
    obtain ⟨hE, hor⟩ := hrel
    rcases hor with ⟨rfl, rfl⟩ | ⟨rfl, A2, c2, rfl, hO⟩
    · have HE := Lib.hid hE
      obtain ⟨wo, hwo⟩ : ∃ wo, wo = wr := ⟨_, rfl⟩
      subst hwo
      go_upto_region 7 with fail
      go_loopw [5, 6] (fun t5 t6 wq => ∃ j : Nat, j ≤ 4 ∧ t6 = .int .i64 (3 - (j : Int)) ∧ t5 = .int .u64 (accW j) ∧ wo = wq) (fun _ t6 _ => (intOf t6 + 1).toNat)
      case atStart => exact ⟨0, by omega, rfl, rfl, rfl⟩
      case round =>
        obtain ⟨j, hj, rfl, rfl, rfl⟩ := hrel
        obtain ⟨e0, e1, e2, e3⟩ := HC.out _ HE.out
        obtain rfl | rfl | rfl | rfl | rfl : j = 0 ∨ j = 1 ∨ j = 2 ∨ j = 3 ∨ j = 4 := by omega
        · simp only [accW, List.getD_cons_zero, List.getD_cons_succ]
          go_wp2_with fail
          go_roundw
          case rel => exact ⟨1, by omega, by go_num, by first | rfl | (simp [accW]), by first | trivial | rfl⟩
          case measure => simp [intOf]
        · simp only [accW, List.getD_cons_zero, List.getD_cons_succ]
          go_wp2_with fail
          go_roundw
          case rel => exact ⟨2, by omega, by go_num, by first | rfl | (simp [accW]), by first | trivial | rfl⟩
          case measure => simp [intOf]
        · simp only [accW, List.getD_cons_zero, List.getD_cons_succ]
          go_wp2_with fail
          go_roundw
          case rel => exact ⟨3, by omega, by go_num, by first | rfl | (simp [accW]), by first | trivial | rfl⟩
          case measure => simp [intOf]
        · simp only [accW, List.getD_cons_zero, List.getD_cons_succ]
          go_wp2_with fail
          go_roundw
          case rel => exact ⟨4, by omega, by go_num, by first | rfl | (simp [accW]), by first | trivial | rfl⟩
          case measure => simp [intOf]
        · simp only [accW, List.getD_cons_zero, List.getD_cons_succ]
          go_wp2_with (at_builtin; refine wpList_app1n u64R _ rfl _ _ rfl w.heap.size _ _ _ [] rfl (Own.nil _ _ _ _) _ rfl (by decide) (by simp) HE.out.le ?_; intro g6 c6 w6 hO6 hG6 hB6 hor6)
          go_roundw
          case rel => exact ⟨HE.out.grown hG6 (fun k hk => by simp [Value.ownBlock] at hk), .inr ⟨by first | trivial | rfl, _, _, rfl, by simpa using hO6⟩⟩
          case measure => simp [intOf]
    · go_wp2_with fail
      go_ret
      exact RetOwn.mk_ rfl hO hE
theorem words_flow : wordsL (bytS flowS) = [2003790950] := by decide
theorem sumS_flow (l : List Int) : sumS flowS l = mixV ((l.map IntKind.u64.wrap).foldl mixV (mixV (mixV (mixV 0 2003790950) 4) (IntKind.u64.wrap l.length))) 0 := by
  unfold sumS
  rw [words_flow]
  rfl
set_option linter.unusedSimpArgs false in
set_option maxHeartbeats 2000000 in
set_option maxRecDepth 100000 in
theorem sumR_c (A : Option Addr) (n c : Nat) (l : List Int) (w : World) (h : Nums .i64 w A n c l) :
    Calls Tryz.prog 70 #[.string flowS, .slice A n c] w fun e w' => e = .returned (.int .u64 (sumS flowS l)) ∧ E w w' := by
  have hcv := Lib.run_convert_string_bytes (P := Tryz.prog) w 9 87 5 flowS (by exact Tryz.underlying9) (by exact Tryz.underlying87) (by exact Tryz.underlying5)
  have hN2 := bytesWorld_nums w 5 flowS (by decide)
  have hE2 := bytesWorld_e w 5 flowS
  have hsz : flowS.size = 4 := rfl
  have hby : bytS flowS = flowB := by decide
  rw [hsz, hby] at hN2
  rw [hsz] at hcv
  generalize grownCap w 4 0 5 = cc at *
  generalize Lib.bytesWorld w 5 flowS = w2 at *
  have HW := Lib.hid (wordsR_c _ cc w2 hN2)
  have HE2 := Lib.hid hE2
  have HNL := Lib.hid (h.e hE2)
  have hn63 := h.n63
  have HL := Lib.hid h.len
  have hs := sumS_flow l
  rw [h.len] at hs
  have HS := Lib.hid hs
  have hwn : IntKind.u64.wrap (n : Int) = (n : Int) := by rw [IntKind.wrap_u64]; omega
  generalize sumS flowS l = res at *
  obtain ⟨a1, ha1⟩ : ∃ a1, mixV 0 2003790950 = a1 := ⟨_, rfl⟩
  obtain ⟨a2, ha2⟩ : ∃ a2, mixV a1 4 = a2 := ⟨_, rfl⟩
  obtain ⟨a3, ha3⟩ : ∃ a3, mixV a2 (n : Int) = a3 := ⟨_, rfl⟩
  have HF := Lib.hid (show mixV ((l.map IntKind.u64.wrap).foldl mixV a3) 0 = res by rw [HS.out, ha1, ha2, hwn, ha3])
  have HM1 := Lib.hid (fun W => show Calls Tryz.prog 104 #[.int .u64 0, .int .u64 2003790950] W (fun e w' => e = .returned (.int .u64 a1) ∧ W = w') from ha1 ▸ mixR_c 0 2003790950 W)
  have HM2 := Lib.hid (fun W => show Calls Tryz.prog 104 #[.int .u64 a1, .int .u64 4] W (fun e w' => e = .returned (.int .u64 a2) ∧ W = w') from ha2 ▸ mixR_c a1 4 W)
  have HM3 := Lib.hid (fun W => show Calls Tryz.prog 104 #[.int .u64 a2, .int .u64 n] W (fun e w' => e = .returned (.int .u64 a3) ∧ W = w') from ha3 ▸ mixR_c a2 n W)
  clear hN2 hE2 h hs ha1 ha2 ha3 HS hby
  unfold flowS at hcv ⊢
  go_enter Tryz.func70, Tryz.ntmps70
  go_upto_region 4 with (go_at_call 103; refine HW.out.mono ?_; rintro e w3 ⟨A6, n6, c6, rfl, hO6, hE3⟩)
  have hn6 : n6 = 1 := hO6.1.symm
  subst hn6
  have HO6 := Lib.hid hO6
  have HE3 := Lib.hid hE3
  clear hO6 hE3 hcv HW
  go_loopw [5, 7] (fun t5 t7 wr => w3 = wr ∧ ((t7 = .int .i64 0 ∧ t5 = .int .u64 0) ∨ (t7 = .int .i64 1 ∧ t5 = .int .u64 a1))) (fun _ t7 _ => 2 - (intOf t7).toNat)
  case atStart => exact ⟨rfl, .inl ⟨rfl, rfl⟩⟩
  case round =>
    obtain ⟨rfl, hor⟩ := hrel
    rcases hor with ⟨rfl, rfl⟩ | ⟨rfl, rfl⟩
    · obtain ⟨b, o, y, rfl, _, hy, _, hcy⟩ := HO6.out.reads.get (i := 0) (by omega)
      have hy2 : y = 2003790950 := by simpa using hy.symm
      subst hy2
      simp only [Nat.add_zero] at hcy
      clear hy
      go_wp2_with (go_at_call 104; refine (HM1.out _).mono ?_; rintro e w' ⟨rfl, rfl⟩)
      go_roundw
      case rel => exact ⟨by first | trivial | rfl, .inr ⟨by first | trivial | rfl, by first | trivial | rfl⟩⟩
      case measure => simp [intOf]
    · have HN3 := Lib.hid (HNL.out.e HE3.out)
      go_upto_region 8 with (go_at_call 104; (with_reducible refine (HM2.out _).mono ?_); rintro e w' ⟨rfl, rfl⟩)
      go_upto_region 10 with (go_at_call 104; (with_reducible refine (HM3.out _).mono ?_); rintro e w' ⟨rfl, rfl⟩)
      go_loopw [5, 8] (fun t5 t8 wq => ∃ k : Nat, k ≤ n ∧ t8 = .int .i64 k ∧ w3 = wq ∧ ∃ v, t5 = .int .u64 v ∧ Hid (v = ((l.take k).map IntKind.u64.wrap).foldl mixV a3)) (fun _ t8 _ => n - (intOf t8).toNat)
      case atStart => exact ⟨0, Nat.zero_le _, rfl, rfl, _, rfl, show _ = _ by rw [List.take_zero]; rfl⟩
      case round =>
        obtain ⟨k, hk, rfl, rfl, v, rfl, hv⟩ := hrel
        by_cases hlt : k < n
        · have hkI : (k : Int) < (n : Int) := by omega
          obtain ⟨b, o, y, rfl, _, hy, hwy, hcy⟩ := HN3.out.get hlt
          obtain ⟨u, hu⟩ : ∃ u, IntKind.u64.wrap y = u := ⟨_, rfl⟩
          have HV := Lib.hid (show mixV v u = ((l.take (k + 1)).map IntKind.u64.wrap).foldl mixV a3 by
            rw [List.take_add_one, hy, Option.toList_some, List.map_append, List.foldl_append, ← hv.out, ← hu]; rfl)
          have HMX := Lib.hid (fun W => mixR_c v u W)
          have HU := Lib.hid hu
          clear hy hv hwy hu
          go_wp2_with (go_at_call 104; (try rw [HU.out]); refine (HMX.out _).mono ?_; rintro e w' ⟨rfl, rfl⟩)
          go_roundw
          case rel => exact ⟨k + 1, by omega, by go_num, by first | trivial | rfl, _, rfl, HV.out⟩
          case measure => simp [intOf]; omega
        · have HV := Lib.hid (show mixV v 0 = res by
            rw [← HF.out, hv.out, List.take_of_length_le (by have := HL.out; omega)])
          have HMX := Lib.hid (fun W => show Calls Tryz.prog 104 #[.int .u64 v, .int .u64 0] W (fun e w' => e = .returned (.int .u64 res) ∧ W = w') from HV.out ▸ mixR_c v 0 W)
          clear hv
          go_wp2_with (go_at_call 104; refine (HMX.out _).mono ?_; rintro e w' ⟨rfl, rfl⟩)
          go_ret
          exact ⟨rfl, HE2.out.trans HE3.out⟩
end Go.Proofs.YtmeplpiamkaniaaGreat
namespace Go.Proofs.YtmeplpiamkaniaaGreat
set_option linter.unusedVariables false
set_option linter.unusedSimpArgs false
open Go.RowKit
theorem wrap_eq64 (v : Int) : IntKind.i64.wrap v = wrap64 v := by rw [IntKind.wrap_i64]; unfold wrap64; omega
theorem hwP_len (k : Int → Int) (L : List Lt) : (L.flatMap (hwP k)).length = 3 * L.length := by
  induction L with
  | nil => rfl
  | cons a L ih => rw [List.flatMap_cons, List.length_append, ih, List.length_cons]; simp [hwP]; omega
set_option linter.unusedSimpArgs false in
set_option maxHeartbeats 8000000 in
set_option maxRecDepth 100000 in
theorem refHash_c (fs : List Fl) (rk : Int → Nat) (hrk : ∀ f ∈ fs, ∀ j ∈ refsF f, rk j < rk f.id) (hg : GOk fs) (k : Int → Int) (hk : HashOf fs k) (hz : ∀ f ∈ fs, f.parts.length ≤ 10000 ∧ f.made.length ≤ 10000) (A0 : Option Addr) (n0 c0 : Nat) : ∀ (N : Nat) (i : Int) (w : World), rk i < N → FlowsAt w A0 n0 c0 fs → (∃ f, getF fs i = some f) →
    Calls Tryz.prog 26 #[.slice A0 n0 c0, .int .i64 i] w fun e w' => e = .returned (.int .u64 (k i)) ∧ E w w'
  | 0, _, _, h, _, _ => absurd h (Nat.not_lt_zero _)
  | N + 1, i0, w, hN, h, hi0 => by
    have IH := refHash_c fs rk hrk hg k hk hz A0 n0 c0 N
    obtain ⟨f, hf⟩ := hi0
    obtain ⟨hfm, hid⟩ := getF_some hf
    obtain ⟨q, hq⟩ := pos_some hf
    obtain ⟨f', hfq, hf', hida⟩ := posF_some hq
    rw [hf] at hf'
    injection hf' with hf'
    subst hf'
    have hqn : q < n0 := by rw [← h.len]; exact (List.getElem?_eq_some_iff.1 hfq).1
    have hqI : (q : Int) < (n0 : Int) := by omega
    obtain ⟨b0, o0, f3, s, t, hA0, hb0, hf3, hwf, hcf, hb⟩ := h.get hqn
    rw [hfq] at hf3
    injection hf3 with hf3
    subst hf3
    have hFI := find_c A0 n0 c0 fs i0 w h
    have hfi : findI fs i0 = (q : Int) := by rw [findI, hq]
    rw [hfi] at hFI
    have hKF : k i0 = sumS flowS (hwF f k) := by rw [← hid]; exact hk f hfm
    obtain ⟨A, n, c⟩ := s
    obtain ⟨A', n', c'⟩ := t
    have hzf := hz f hfm
    have hpl : f.parts.length = n := hb.1.len
    have hml : f.made.length = n' := hb.2.len
    have hn : n ≤ 10000 := by omega
    have hn' : n' ≤ 10000 := by omega
    have HR := Lib.hid (fun W (hE : E w W) j (hj : j ∈ refsF f) => show Calls Tryz.prog 26 #[.slice A0 n0 c0, .int .i64 j] W (fun e w' => e = .returned (.int .u64 (k j)) ∧ E W w') from IH j W (by have := hrk f hfm j hj; rw [hid] at this; omega) (h.e hE) (hg.refs hfm hj))
    have HKF := Lib.hid hKF
    have HFI := Lib.hid hFI
    clear hida hid hKF hFI hfi hq hfq hqn IH hzf hf h hN hz hk hrk hg
    generalize k i0 = res at *
    obtain ⟨w2, hw2⟩ : ∃ w2, w.alloc (.cells #[.int .i64 f.id, .int .i64 f.step, .int .i64 f.kind, .int .i64 f.tick, .int .i64 f.actor, .int .i64 f.frm, .int .i64 f.to, .int .i64 f.item, .int .i64 f.n, .slice A n c, .slice A' n' c'] 43) = w2 := ⟨_, rfl⟩
    have hE2 : E w w2 := by rw [← hw2]; exact (E.refl w).alloc _
    have hbx : FlBox w2 w.heap.size f (A, n, c) (A', n', c') := by rw [← hw2]; exact FlBox.new w f (A, n, c) (A', n', c')
    obtain ⟨w3, hw3⟩ : ∃ w3, w2.alloc (.cells #[.int .i64 f.id, .int .i64 f.step, .int .i64 f.kind, .int .i64 f.tick, .int .i64 f.actor, .int .i64 f.frm, .int .i64 f.to, .int .i64 f.item, .int .i64 f.n, .int .i64 n] 3) = w3 := ⟨_, rfl⟩
    have hE3 : E w2 w3 := by rw [← hw3]; exact (E.refl w2).alloc _
    have hnw : (Lit.int .i64 (n : Int)).wf = true := wf_of_i64 (by omega) (by omega)
    have HR3 := Lib.hid (show RowI w2 w3 (some ⟨w2.heap.size, 0, none⟩) 10 10 (hw10 f) from ⟨by
      rw [← hw3]
      obtain ⟨q0, q1, q2, q3, q4, q5, q6, q7, q8⟩ := hwf
      exact ownI_lit w2 (hw10 f) (by
        intro x hx
        simp only [hw10, List.mem_cons, List.not_mem_nil, or_false] at hx
        rcases hx with rfl | rfl | rfl | rfl | rfl | rfl | rfl | rfl | rfl | rfl
        all_goals first | assumption | (rw [hpl]; exact hnw)) (by simp [hw10]) _ (by simp [hw10, hpl]), hE3⟩)
    have HE12 := Lib.hid hE2
    have HBX := Lib.hid hbx
    have HFB := Lib.hid hb
    have HPL := Lib.hid hpl
    have HML := Lib.hid hml
    have hn63 : n ≤ 9223372036854775807 := by omega
    have hn63' : n' ≤ 9223372036854775807 := by omega
    unfold FlCells at hcf
    obtain ⟨y0, y1, y2, y3, y4, y5, y6, y7, y8, y9, y10⟩ := hcf
    obtain ⟨⟨x0, x1, x2, x3, x4, x5, x6, x7, x8, x9, x10⟩, _⟩ := hbx.both
    (try simp only at x9 x10 y9 y10)
    have HNS := Lib.hid (And.intro hn hn')
    have HB0 := Lib.hid hb0
    subst hA0
    clear hb hwf hE2 hE3 hbx hpl hml hnw hn hn' hfm hb0
    go_enter Tryz.func26, Tryz.ntmps26
    go_upto_region 2 with (go_at_call 69; refine HFI.out.mono ?_; rintro e wy ⟨rfl, rfl⟩)
    try rw [hw2]
    clear y0 y1 y2 y3 y4 y5 y6 y7 y8 y9 y10
    go_upto_region 4 with fail
    try rw [hw3]
    clear hw2 hw3 x0 x1 x2 x3 x4 x5 x6 x7 x8 x9 x10
    go_loopw [6, 7] (fun t6 t7 wr => ∃ (i nw cw : Nat) (Aw : Option Addr) (l : List Int), i ≤ n ∧ t7 = .int .i64 i ∧ t6 = .slice Aw nw cw ∧ RowI w2 wr Aw nw cw l ∧ Hid (l = hw10 f ++ (f.parts.take i).flatMap (hwP k))) (fun _ t7 _ => n - (intOf t7).toNat)
    case atStart => exact ⟨0, 10, 10, _, _, Nat.zero_le _, rfl, rfl, HR3.out, by rw [List.take_zero, List.flatMap_nil, List.append_nil]; rfl⟩
    case round =>
      obtain ⟨i, nw, cw, Aw, l, hi, rfl, rfl, hO, hl⟩ := hrel
      have hE2r := hO.2
      have hLn : l.length = nw := hO.1.1
      have x9 := (HBX.out.e hE2r).cells0.2.2.2.2.2.2.2.2.2.1
      have x10 := (HBX.out.e hE2r).cells0.2.2.2.2.2.2.2.2.2.2
      (try simp only at x9 x10)
      by_cases hlt : i < n
      · obtain ⟨b, o, y, hAe, hbb, hy, hwy, d0, d1, d2⟩ := ((show LotsAt w A n c f.parts from HFB.out.1).e (HE12.out.trans hE2r)).get hlt
        have hiI : (i : Int) < (n : Int) := by omega
        have hyr : y.1 ∈ refsF f := List.mem_append_left _ (List.mem_map.2 ⟨y, List.mem_of_getElem? hy, rfl⟩)
        have HOV := Lib.hid hO
        have HCV := Lib.hid (HR.out wr.drew (HE12.out.trans hE2r.drew) y.1 hyr)
        have HLN := Lib.hid (show (l ++ [wrap64 (k y.1), y.2.1, y.2.2]) = hw10 f ++ (f.parts.take (i + 1)).flatMap (hwP k) by
          rw [hl.out, take_snoc hy, List.flatMap_append, List.append_assoc]
          simp [hwP])
        have HNW := Lib.hid (show nw ≤ 100000 by
          have h1 := congrArg List.length hl.out
          rw [List.length_append, hwP_len, List.length_take] at h1
          have h4 : (hw10 f).length = 10 := rfl
          have := HNS.out
          omega)
        have HWY := Lib.hid hwy
        have HAW := Lib.hid (fun b (hb : ob Aw = some b) => (hO.1.ltN b hb))
        have HDC := Lib.hid (fun W (hW : E wr W) => show W.cell? ⟨w.heap.size, 9, none⟩ = some (.slice A n c) ∧ W.cell? ⟨b, o + i * 3, none⟩ = some (.int .i64 y.1) ∧ W.cell? ⟨b, o + i * 3 + 1, none⟩ = some (.int .i64 y.2.1) ∧ W.cell? ⟨b, o + i * 3 + 2, none⟩ = some (.int .i64 y.2.2) from ⟨(hW.cell (p := ⟨w.heap.size, 9, none⟩) (Nat.lt_of_lt_of_le HBX.out.lt hE2r.le)).trans x9, (hW.cell (p := ⟨b, _, none⟩) hbb).trans d0, (hW.cell (p := ⟨b, _, none⟩) hbb).trans d1, (hW.cell (p := ⟨b, _, none⟩) hbb).trans d2⟩)
        have hbl : b < w.heap.size := by
          obtain ⟨b', o', hA', hb', _⟩ := (show LotsAt w A n c f.parts from HFB.out.1).at_ (by omega)
          rw [hAe] at hA'
          injection hA' with hA'
          injection hA' with e1 e2
          omega
        have HBL := Lib.hid (And.intro hbl HBX.out.lt)
        subst hAe
        clear hy hyr hO hl hwy hLn hbb d0 d1 d2 hbl
        go_upto_region 6 with fail
        clear x9 x10
        have hEa := (E.refl wr).drew
        refine wp_region_held_drew (S := (fun W => W.cell? ⟨w.heap.size, 9, none⟩ = some (.slice (some ⟨b, o, none⟩) n c) ∧ W.cell? ⟨b, o + i * 3, none⟩ = some (.int .i64 y.1) ∧ W.cell? ⟨b, o + i * 3 + 1, none⟩ = some (.int .i64 y.2.1) ∧ W.cell? ⟨b, o + i * 3 + 2, none⟩ = some (.int .i64 y.2.2))) (by kernel_rfl) (HDC.out _ hEa) (fun hHeld => ?_)
        (((refine wpAnyH_take (i := 0) (v := ?_) rfl (by kernel_rfl) (by kernel_rfl) (by kernel_rfl) (fun _ _ _ h => h) (Or.inl ⟨by kernel_rfl, ?_⟩) (by assumption) ?_); rotate_left 1; (focus (intro w hSw; (try dsimp only at hSw); go_simp; (try with_reducible rfl))); (try simp only [Act.put, sA, sB, sC])); ((refine wpAnyH_take (i := 1) (v := ?_) rfl (by kernel_rfl) (by kernel_rfl) (by kernel_rfl) (fun _ _ _ h => h) (Or.inl ⟨by kernel_rfl, ?_⟩) (by assumption) ?_); rotate_left 1; (focus (intro w hSw; (try dsimp only at hSw); go_simp; (try with_reducible rfl))); (try simp only [Act.put, sA, sB, sC])); ((refine wpAnyH_take (i := 2) (v := ?_) rfl (by kernel_rfl) (by kernel_rfl) (by kernel_rfl) (fun _ _ _ h => h) (Or.inl ⟨by kernel_rfl, ?_⟩) (by assumption) ?_); rotate_left 1; (focus (intro w hSw; (try dsimp only at hSw); go_simp; (try with_reducible rfl))); (try simp only [Act.put, sA, sB, sC])); ((refine wpAnyH_take (i := 3) (v := ?_) rfl (by kernel_rfl) (by kernel_rfl) (by kernel_rfl) (fun _ _ _ h => h) (Or.inl ⟨by kernel_rfl, ?_⟩) (by assumption) ?_); rotate_left 1; (focus (intro w hSw; (try dsimp only at hSw); go_simp; (try with_reducible rfl))); (try simp only [Act.put, sA, sB, sC])); ((refine wpAnyH_take (i := 4) (v := ?_) rfl (by kernel_rfl) (by kernel_rfl) (by kernel_rfl) (fun _ _ _ h => h) (Or.inl ⟨by kernel_rfl, ?_⟩) (by assumption) ?_); rotate_left 1; (focus (intro w hSw; (try dsimp only at hSw); go_simp; (try with_reducible rfl))); (try simp only [Act.put, sA, sB, sC])); ((refine wpAnyH_take (i := 5) (v := ?_) rfl (by kernel_rfl) (by kernel_rfl) (by kernel_rfl) (fun _ _ _ h => h) (Or.inl ⟨by kernel_rfl, ?_⟩) (by assumption) ?_); rotate_left 1; (focus (intro w hSw; (try dsimp only at hSw); go_simp; (try with_reducible rfl))); (try simp only [Act.put, sA, sB, sC])); ((refine wpAnyH_take (i := 6) (v := ?_) rfl (by kernel_rfl) (by kernel_rfl) (by kernel_rfl) (fun _ _ _ h => h) (Or.inl ⟨by kernel_rfl, ?_⟩) (by assumption) ?_); rotate_left 1; (focus (intro w hSw; (try dsimp only at hSw); go_simp; (try with_reducible rfl))); (try simp only [Act.put, sA, sB, sC])); ((refine wpAnyH_take (i := 7) (v := ?_) rfl (by kernel_rfl) (by kernel_rfl) (by kernel_rfl) (fun _ _ _ h => h) (Or.inl ⟨by kernel_rfl, ?_⟩) (by assumption) ?_); rotate_left 1; (focus (intro w hSw; (try dsimp only at hSw); go_simp; (try with_reducible rfl))); (try simp only [Act.put, sA, sB, sC])); ((refine wpAnyH_take (i := 10) (v := ?_) rfl (by kernel_rfl) (by kernel_rfl) (by kernel_rfl) (fun _ _ _ h => h) (Or.inl ⟨by kernel_rfl, ?_⟩) (by assumption) ?_); rotate_left 1; (focus (intro w hSw; (try dsimp only at hSw); go_simp; (try with_reducible rfl))); (try simp only [Act.put, sA, sB, sC])); ((refine wpAnyH_take (i := 11) (v := ?_) rfl (by kernel_rfl) (by kernel_rfl) (by kernel_rfl) (fun _ _ _ h => h) (Or.inl ⟨by kernel_rfl, ?_⟩) (by assumption) ?_); rotate_left 1; (focus (intro w hSw; (try dsimp only at hSw); go_simp; (try with_reducible rfl))); (try simp only [Act.put, sA, sB, sC])); ((refine wpAnyH_take (i := 12) (v := ?_) rfl (by kernel_rfl) (by kernel_rfl) (by kernel_rfl) (fun _ _ _ h => h) (Or.inl ⟨by kernel_rfl, ?_⟩) (by assumption) ?_); rotate_left 1; (focus (intro w hSw; (try dsimp only at hSw); go_simp; (try with_reducible rfl))); (try simp only [Act.put, sA, sB, sC])); ((refine wpAnyH_take (i := 13) (v := ?_) rfl (by kernel_rfl) (by kernel_rfl) (by kernel_rfl) (fun _ _ _ h => h) (Or.inl ⟨by kernel_rfl, ?_⟩) (by assumption) ?_); rotate_left 1; (focus (intro w hSw; (try dsimp only at hSw); go_simp; (try with_reducible rfl))); (try simp only [Act.put, sA, sB, sC])); ((refine wpAnyH_take (i := 14) (v := ?_) rfl (by kernel_rfl) (by kernel_rfl) (by kernel_rfl) (fun _ _ _ h => h) (Or.inl ⟨by kernel_rfl, ?_⟩) (by assumption) ?_); rotate_left 1; (focus (intro w hSw; (try dsimp only at hSw); go_simp; (try with_reducible rfl))); (try simp only [Act.put, sA, sB, sC])); ((refine wpAnyH_take (i := 15) (v := ?_) rfl (by kernel_rfl) (by kernel_rfl) (by kernel_rfl) (fun _ _ _ h => h) (Or.inl ⟨by kernel_rfl, ?_⟩) (by assumption) ?_); rotate_left 1; (focus (intro w hSw; (try dsimp only at hSw); go_simp; (try with_reducible rfl))); (try simp only [Act.put, sA, sB, sC])); ((refine wpAnyH_take (i := 16) (v := ?_) rfl (by kernel_rfl) (by kernel_rfl) (by kernel_rfl) (fun _ _ _ h => h) (Or.inl ⟨by kernel_rfl, ?_⟩) (by assumption) ?_); rotate_left 1; (focus (intro w hSw; (try dsimp only at hSw); go_simp; (try with_reducible rfl))); (try simp only [Act.put, sA, sB, sC])); ((refine wpAnyH_take (i := 17) (v := ?_) rfl (by kernel_rfl) (by kernel_rfl) (by kernel_rfl) (fun _ _ _ h => h) (Or.inl ⟨by kernel_rfl, ?_⟩) (by assumption) ?_); rotate_left 1; (focus (intro w hSw; (try dsimp only at hSw); go_simp; (try with_reducible rfl))); (try simp only [Act.put, sA, sB, sC])); ((refine wpAnyH_take (i := 18) (v := ?_) rfl (by kernel_rfl) (by kernel_rfl) (by kernel_rfl) (fun _ _ _ h => h) (Or.inl ⟨by kernel_rfl, ?_⟩) (by assumption) ?_); rotate_left 1; (focus (intro w hSw; (try dsimp only at hSw); go_simp; (try with_reducible rfl))); (try simp only [Act.put, sA, sB, sC])); ((refine wpAnyH_take (i := 19) (v := ?_) rfl (by kernel_rfl) (by kernel_rfl) (by kernel_rfl) (fun _ _ _ h => h) (Or.inl ⟨by kernel_rfl, ?_⟩) (by assumption) ?_); rotate_left 1; (focus (intro w hSw; (try dsimp only at hSw); go_simp; (try with_reducible rfl))); (try simp only [Act.put, sA, sB, sC])); ((refine wpAnyH_take (i := 20) (v := ?_) rfl (by kernel_rfl) (by kernel_rfl) (by kernel_rfl) (fun _ _ _ h => h) (Or.inl ⟨by kernel_rfl, ?_⟩) (by assumption) ?_); rotate_left 1; (focus (intro w hSw; (try dsimp only at hSw); go_simp; (try with_reducible rfl))); (try simp only [Act.put, sA, sB, sC])); ((refine wpAnyH_take (i := 21) (v := ?_) rfl (by kernel_rfl) (by kernel_rfl) (by kernel_rfl) (fun _ _ _ h => h) (Or.inl ⟨by kernel_rfl, ?_⟩) (by assumption) ?_); rotate_left 1; (focus (intro w hSw; (try dsimp only at hSw); go_simp; (try with_reducible rfl))); (try simp only [Act.put, sA, sB, sC])))
        (((refine wpAnyH_ready (rs := [8]) (by kernel_rfl) (by simp) ?_); (refine AllReadyH.cons rfl (fun K hK => ?_) AllReadyH.nil); (rw [if_pos (by kernel_rfl)]); go_simp))
        refine HCV.out.mono ?_
        rintro e wn ⟨rfl, hEn⟩
        replace hEa := hEa.trans hEn
        refine hK _ _ (HDC.out _ hEa) (fun hh => ?_)
        clear hK K hHeld
        have hHeld := hh
        clear hh hEn
        (try simp only [List.getElem_toArray, List.getElem_cons_succ, List.getElem_cons_zero, Act.put, sA, sB, sC])
        (((refine wpAnyH_take (i := 9) (v := ?_) rfl (by kernel_rfl) (by kernel_rfl) (by kernel_rfl) (fun _ _ _ h => h) (Or.inl ⟨by kernel_rfl, ?_⟩) (by assumption) ?_); rotate_left 1; (focus (intro w hSw; (try dsimp only at hSw); go_simp; (try with_reducible rfl))); (try simp only [Act.put, sA, sB, sC])))
        (try rw [(wrap_eq64 (k y.1))])
        obtain ⟨X, hX⟩ : ∃ X, wn.alloc (.cells #[.int .i64 (wrap64 (k y.1)), .int .i64 y.2.1, .int .i64 y.2.2] 3) = X := ⟨_, rfl⟩
        have hEX : E wr X := by rw [← hX]; exact hEa.alloc _
        have hNX : Nums .i64 X (some ⟨wn.heap.size, 0, none⟩) 3 3 [wrap64 (k y.1), y.2.1, y.2.2] := by
          rw [← hX]
          exact nums_lit wn [wrap64 (k y.1), y.2.1, y.2.2] (by
            intro z hz
            simp only [List.mem_cons, List.not_mem_nil, or_false] at hz
            rcases hz with rfl | rfl | rfl
            · exact wrap64_wf _
            · exact HWY.out.2.1
            · exact HWY.out.2.2) (by simp) _ (by simp)
        obtain ⟨A9, c9, W9, hrun, hr9, hG9, _⟩ := (HOV.out.e_ hEX).app _ _ _ _ hNX (by have := HNW.out; omega) 22
        have HR9 := Lib.hid hr9
        have hX9 : Ex (fun j => ob Aw = some j) X W9 := (Ex.refl (fun j => ob Aw = some j) X).grown hG9 (fun k hk => .inr hk)
        have hsx := hEX.size
        have h2x := hE2r.size
        have s9 : W9.cell? ⟨w.heap.size, 9, none⟩ = some (.slice (some ⟨b, o, none⟩) n c) ∧ W9.cell? ⟨b, o + i * 3, none⟩ = some (.int .i64 y.1) ∧ W9.cell? ⟨b, o + i * 3 + 1, none⟩ = some (.int .i64 y.2.1) ∧ W9.cell? ⟨b, o + i * 3 + 2, none⟩ = some (.int .i64 y.2.2) := by
          obtain ⟨e0, e1, e2, e3⟩ := HDC.out X hEX
          obtain ⟨l1, l2⟩ := HBL.out
          have hnb : ∀ j, ob Aw = some j → w2.heap.size ≤ j := fun j hj => (HAW.out j hj).1
          have hlt2 := HE12.out.size
          exact ⟨(hX9.cell (p := ⟨w.heap.size, 9, none⟩) (by show w.heap.size < X.heap.size; omega) (fun e => by have := hnb _ e; simp at this; omega)).trans e0, (hX9.cell (p := ⟨b, _, none⟩) (by show b < X.heap.size; omega) (fun e => by have := hnb _ e; simp at this; omega)).trans e1, (hX9.cell (p := ⟨b, _, none⟩) (by show b < X.heap.size; omega) (fun e => by have := hnb _ e; simp at this; omega)).trans e2, (hX9.cell (p := ⟨b, _, none⟩) (by show b < X.heap.size; omega) (fun e => by have := hnb _ e; simp at this; omega)).trans e3⟩
        have S9 := Lib.hid s9
        clear s9 hX9 hG9 hr9 hNX hsx h2x
        (((refine wpAnyH_ready (rs := [22]) (by kernel_rfl) (by simp) ?_); (refine AllReadyH.cons rfl (fun K hK => ?_) AllReadyH.nil); (rw [if_pos (by kernel_rfl)]); go_simp))
        (try rw [hX])
        refine hK _ _ (HDC.out _ hEX) (fun hh => ?_)
        clear hK K hHeld
        have hHeld := hh
        clear hh
        (try simp only [List.getElem_toArray, List.getElem_cons_succ, List.getElem_cons_zero, Act.put, sA, sB, sC])
        refine wpAnyH_ready (rs := [23]) (by kernel_rfl) (by simp) ?_
        refine AllReadyH.cons rfl (fun K hK => ?_) AllReadyH.nil
        refine step_app_runQ (by rfl) _ _ (by rfl) (by rfl) (by rfl) hrun ?_
        refine hK _ _ S9.out (fun hh => ?_)
        clear hK K hHeld
        have hHeld := hh
        clear hh
        (try simp only [List.getElem_toArray, List.getElem_cons_succ, List.getElem_cons_zero, Act.put, sA, sB, sC])
        (((refine wpAnyH_take (i := 24) (v := ?_) rfl (by kernel_rfl) (by kernel_rfl) (by kernel_rfl) (fun _ _ _ h => h) (Or.inl ⟨by kernel_rfl, ?_⟩) (by assumption) ?_); rotate_left 1; (focus (intro w hSw; (try dsimp only at hSw); go_simp; (try with_reducible rfl))); (try simp only [Act.put, sA, sB, sC])))
        refine wpAnyH_done (by kernel_rfl) ?_ _
        go_simp
        clear hHeld hrun hEX hEa hX
        go_wp2_with fail
        go_roundw
        case rel => exact ⟨i + 1, _, _, _, _, by omega, by go_num, rfl, HR9.out, HLN⟩
        case measure => simp [intOf]; omega
      · have hil : f.parts.take i = f.parts := List.take_of_length_le (by have := HPL.out; omega)
        have hl2 := hl.out
        rw [hil] at hl2
        have hnl : (Lit.int .i64 (n' : Int)).wf = true := wf_of_i64 (by omega) (by omega)
        have hnw : nw ≤ 100000 := by
          have h1 := congrArg List.length hl2
          rw [List.length_append, hwP_len] at h1
          have h4 : (hw10 f).length = 10 := rfl
          have h5 := HPL.out
          have h6 := HNS.out
          have h7 := hO.1.1
          omega
        obtain ⟨X, hX⟩ : ∃ X, wr.alloc (.cells #[.int .i64 n'] 3) = X := ⟨_, rfl⟩
        have hEX : E wr X := by rw [← hX]; exact (E.refl wr).alloc _
        obtain ⟨A9, c9, W9, hrun, hr9, _⟩ := (hO.e_ hEX).app _ _ _ _ (show Nums .i64 X (some ⟨wr.heap.size, 0, none⟩) 1 1 [(n' : Int)] by rw [← hX]; exact nums_one2 wr hnl) (by omega) 22
        have HR9 := Lib.hid hr9
        have HL0 := Lib.hid (show l ++ [(n' : Int)] = hw10 f ++ f.parts.flatMap (hwP k) ++ [(f.made.length : Int)] ++ (f.made.take 0).map fun j => wrap64 (k j) by rw [hl2, HML.out]; simp)
        have HL9 := Lib.hid (show l ++ [(n' : Int)] = hw10 f ++ f.parts.flatMap (hwP k) ++ [(f.made.length : Int)] by rw [hl2, HML.out])
        have HNW := Lib.hid hnw
        obtain ⟨wz, hwz⟩ : ∃ wz, wz = wr := ⟨_, rfl⟩
        subst hwz
        clear hil hl hl2 hE2r hnl hO hEX hr9 hnw
        go_upto_region 9 with (at_builtin; (try rw [hX]); refine wpList_app_runM rfl _ _ rfl rfl rfl hrun ?_)
        clear hX hrun x9 x10
        go_loopw [6, 8] (fun t6 t8 wr => ∃ (j nw cw : Nat) (Aw : Option Addr) (l : List Int), j ≤ n' ∧ t8 = .int .i64 j ∧ t6 = .slice Aw nw cw ∧ RowI w2 wr Aw nw cw l ∧ Hid (l = hw10 f ++ f.parts.flatMap (hwP k) ++ [(f.made.length : Int)] ++ (f.made.take j).map fun j => wrap64 (k j))) (fun _ t8 _ => n' - (intOf t8).toNat)
        case atStart => exact ⟨0, _, _, _, _, Nat.zero_le _, rfl, rfl, HR9.out, HL0⟩
        case round =>
          obtain ⟨j, nw, cw, Aw, l, hj, rfl, rfl, hO, hl⟩ := hrel
          have x10 := (HBX.out.e hO.2).cells0.2.2.2.2.2.2.2.2.2.2
          (try simp only at x10)
          have hn2 : nw ≤ 200000 := by
            have h1 := congrArg List.length hl.out
            have h2 := congrArg List.length HL9.out
            rw [List.length_append, ← HL9.out, List.length_append, List.length_map, List.length_take] at h1
            have h5 := HNS.out
            have h6 := HNW.out
            have h7 := hO.1.1
            have h8 := HR9.out.1.1
            rw [List.length_append] at h8
            simp only [List.length_singleton] at h1 h8
            omega
          by_cases hlt : j < n'
          · obtain ⟨b, o, y, hAe, hbb, hy, hwy, hcy⟩ := ((show Nums .i64 w A' n' c' f.made from HFB.out.2).e (HE12.out.trans hO.2)).get hlt
            have hjI : (j : Int) < (n' : Int) := by omega
            have hyr : y ∈ refsF f := List.mem_append_right _ (List.mem_of_getElem? hy)
            have HCV := Lib.hid (HR.out wr (HE12.out.trans hO.2) y hyr)
            have HOI := Lib.hid hO
            have HLN := Lib.hid (show l ++ [wrap64 (k y)] = hw10 f ++ f.parts.flatMap (hwP k) ++ [(f.made.length : Int)] ++ (f.made.take (j + 1)).map fun j => wrap64 (k j) by
              rw [hl.out, take_snoc hy, List.map_append, ← List.append_assoc]; rfl)
            have HN2 := Lib.hid hn2
            rw [hAe] at x10
            clear hy hyr hwy hO hl hn2 hAe
            go_wp2_with fail
            refine HCV.out.mono ?_
            rintro e w5 ⟨rfl, hE5⟩
            obtain ⟨X, hX⟩ : ∃ X, w5.alloc (.cells #[.int .i64 (wrap64 (k y))] 3) = X := ⟨_, rfl⟩
            have hEX : E wr X := by rw [← hX]; exact hE5.alloc _
            obtain ⟨A8, c8, W8, hrun, hr8, _⟩ := (HOI.out.e_ hEX).app _ _ _ _ (show Nums .i64 X (some ⟨w5.heap.size, 0, none⟩) 1 1 [wrap64 (k y)] by rw [← hX]; exact nums_one2 w5 (wrap64_wf _)) (by have := HN2.out; omega) 22
            have HR8 := Lib.hid hr8
            clear hr8 hEX hE5
            go_wp2_with (at_builtin; (try rw [wrap_eq64 (k y)]); (try rw [hX]); refine wpList_app_runM rfl _ _ rfl rfl rfl hrun ?_)
            go_roundw
            case rel => exact ⟨j + 1, _, _, _, _, by omega, by go_num, rfl, HR8.out, HLN⟩
            case measure => simp [intOf]; omega
          · have hjl : f.made.take j = f.made := List.take_of_length_le (by have := HML.out; omega)
            have HF := Lib.hid (show l = hwF f k by rw [hl.out, hjl, hwF_eq])
            have HSM := Lib.hid (sumR_c Aw nw cw l wr hO.1.reads)
            have HEZ := Lib.hid (HE12.out.trans hO.2)
            rw [HF.out, ← HKF.out] at HSM
            clear hjl hO hl
            unfold flowS at HSM
            go_wp2_with (go_at_call 70; refine HSM.out.mono ?_; rintro e w9 ⟨rfl, hE9⟩)
            go_ret
            exact ⟨rfl, HEZ.out.trans hE9⟩
end Go.Proofs.YtmeplpiamkaniaaGreat
namespace Go.Proofs.YtmeplpiamkaniaaGreat
set_option linter.unusedVariables false
set_option linter.unusedSimpArgs false
open Go.RowKit
def RetVer (w : World) (d : List Fl) (x : Lt) (h : Int) (e : Ending) (w' : World) : Prop := ∃ r, VerE d x h r ∧ e = .returned (.int .i64 r) ∧ E w w'
def NewRet3 (w : World) (fs : List Fl) (e : Ending) (w' : World) : Prop :=
  ∃ r gp, NewE fs r ∧ E w w' ∧ e = .returned (.tuple #[.pointer gp, .int .i64 r]) ∧ ((r ≠ 0 ∧ gp = none) ∨ (r = 0 ∧ ∃ g X, gp = some ⟨g, 0, none⟩ ∧ GraphAt w' X g fs ∧ ∀ i, X i → w.heap.size ≤ i))
theorem NewRet.three {w : World} {fs : List Fl} {e : Ending} {w' : World} (h : NewRet w fs e w') : NewRet3 w fs e w' := by
  obtain ⟨r, hr, hE, h⟩ := h
  rcases h with ⟨h0, rfl⟩ | ⟨rfl, g, X, rfl, hG, hX⟩
  · exact ⟨r, none, hr, hE, rfl, .inl ⟨h0, rfl⟩⟩
  · exact ⟨0, _, hr, hE, rfl, .inr ⟨rfl, g, X, rfl, hG, hX⟩⟩
def RetDer2 (w : World) (fs : List Fl) (x : Lt) (e : Ending) (w' : World) : Prop :=
  E w w' ∧ ∃ A n c r, e = .returned (.tuple #[.slice A n c, .int .i64 r]) ∧ ((r = 1 ∧ hasF fs x = false) ∨ (r = 0 ∧ hasF fs x = true ∧ ∃ ds, DerOf fs x.1 ds ∧ FlowsAt w' A n c ds))
theorem RetDer.two {w : World} {fs : List Fl} {x : Lt} {e : Ending} {w' : World} (h : RetDer w fs x e w') : RetDer2 w fs x e w' := by
  obtain ⟨hE, h⟩ := h
  rcases h with ⟨h0, rfl⟩ | ⟨h0, ds, A, n, c, hd, rfl, hF⟩
  · exact ⟨hE, _, _, _, _, rfl, .inl ⟨rfl, h0⟩⟩
  · exact ⟨hE, _, _, _, _, rfl, .inr ⟨rfl, h0, ds, hd, hF⟩⟩
theorem hVal_get {fs : List Fl} {k : Int → Int} {i : Int} {f : Fl} (h : getF fs i = some f) : hVal fs k i = k i := by
  unfold hVal
  rw [h]
  try rfl
set_option linter.unusedSimpArgs false in
set_option maxHeartbeats 8000000 in
set_option maxRecDepth 100000 in
theorem oVerify_c (A : Option Addr) (n c : Nat) (d : List Fl) (x : Lt) (h : Int) (w : World) (hF : FlowsAt w A n c d) (hn : n ≤ 100) (hz : ∀ f ∈ d, f.parts.length ≤ 500 ∧ f.made.length ≤ 500) (hx : WfL x) :
    Calls Tryz.prog 14 #[.slice A n c, ltV x, .int .u64 h] w (RetVer w d x h) := by
  obtain ⟨w1, hw1⟩ : ∃ w1, w.alloc (.cells #[.int .i64 x.1, .int .i64 x.2.1, .int .i64 x.2.2] 30) = w1 := ⟨_, rfl⟩
  have hE1 : E w w1 := by rw [← hw1]; exact (E.refl w).alloc _
  have hx3 := cells3_new w (.int .i64 x.1) (.int .i64 x.2.1) (.int .i64 x.2.2) 30
  rw [hw1] at hx3
  have HZ1 := Lib.hid (show w.heap.size < w1.heap.size by rw [← hw1]; simp)
  have HNW := Lib.hid ((new_c A n c d w1 (hF.e hE1) hn (fun f hf => (hz f hf).2)).mono fun _ _ h => h.three)
  have HE1 := Lib.hid hE1
  have HX3 := Lib.hid hx3
  have HX := Lib.hid hx
  have HZ := Lib.hid hz
  have HN := Lib.hid hn
  have HL := Lib.hid hF.len
  have hn63 := hF.n63
  clear hE1 hx hz hn hF hx3
  unfold ltV
  go_enter Tryz.func14, Tryz.ntmps14
  go_upto_region 1 with fail
  try rw [hw1]
  clear hw1
  go_upto_region 2 with (go_at_call 7; refine HNW.out.mono ?_; rintro e w2 ⟨r, gp, hr, hE2, rfl, hor⟩)
  have HR := Lib.hid hr
  have HE2 := Lib.hid hE2
  clear hr hE2 HNW
  rcases hor with ⟨hr0, rfl⟩ | ⟨rfl, g, X, rfl, hG, hX⟩
  · have hrb : (r != 0) = true := by simpa using hr0
    have HR0 := Lib.hid hr0
    clear hr0
    go_wp2_with fail
    go_ret
    exact ⟨r, .bad HR.out HR0.out, rfl, HE1.out.trans HE2.out⟩
  · have hok := hG.ok
    have HOK := Lib.hid hok
    have HG := Lib.hid hG
    have HXN := Lib.hid hX
    have d0 := (HE2.out.cell (p := ⟨w.heap.size, 0, none⟩) HZ1.out).trans HX3.out.1
    have d1 := (HE2.out.cell (p := ⟨w.heap.size, 1, none⟩) HZ1.out).trans HX3.out.2.1
    have d2 := (HE2.out.cell (p := ⟨w.heap.size, 2, none⟩) HZ1.out).trans HX3.out.2.2
    have hdl : d.length ≤ 1000 := by have := HL.out; have := HN.out; omega
    have HDC := Lib.hid ((gDerive_c X g d x w2 hG HX.out (fun f hf => by have := HZ.out f hf; omega) hdl).mono fun _ _ h => h.two)
    unfold ltV at HDC
    clear hok hG hX
    go_upto_region 5 with (go_at_call 9; refine HDC.out.mono ?_; rintro e w3 ⟨hE3, A9, n9, c9, r9, rfl, hor9⟩)
    have HE3 := Lib.hid hE3
    clear hE3 HDC d0 d1 d2
    rcases hor9 with ⟨rfl, hb⟩ | ⟨rfl, hb, ds, hds, hF9⟩
    · have HB := Lib.hid hb
      clear hb
      go_wp2_with fail
      go_ret
      exact ⟨7, .none_ HOK.out HB.out, rfl, (HE1.out.trans HE2.out).trans HE3.out⟩
    · have hl9 := hF9.len
      have HDS := Lib.hid hds
      have HB := Lib.hid hb
      have hle := hds.len HOK.out.ids
      have HLE := Lib.hid (show ds.length = n9 ∧ ds.length ≤ d.length ∧ d.length = n from ⟨hl9, hle, HL.out⟩)
      by_cases hnn : n9 = n
      · subst hnn
        have HNL := Lib.hid (show ¬ ds.length < d.length by have := HLE.out; omega)
        obtain ⟨k, hk⟩ := HOK.out.hash
        obtain ⟨_, f0, hgf0, _⟩ := hasF_iff.1 hb
        obtain ⟨p, hG3⟩ := HG.out.e HE3.out
        have hHC := gHash_c X g d x.1 p k w3 hG3 hk (fun f hf => by have := HZ.out f hf; omega) hdl HX.out.1
        rw [hVal_get hgf0, hgf0] at hHC
        have HHC := Lib.hid hHC
        have HK := Lib.hid hk
        have d0 := ((HE2.out.trans HE3.out).cell (p := ⟨w.heap.size, 0, none⟩) HZ1.out).trans HX3.out.1
        obtain ⟨v, hv⟩ : ∃ v, k x.1 = v := ⟨_, rfl⟩
        have HV := Lib.hid hv
        rw [hv] at HHC
        clear hl9 hds hb hle hF9 hk hgf0 hG3 hHC hv
        go_upto_region 10 with (go_at_call 10; refine HHC.out.mono ?_; rintro e w4 ⟨rfl, X4, _, hX4, _⟩)
        have HE4 := Lib.hid (e_ex ((HE1.out.trans HE2.out).trans HE3.out) hX4 (fun i hi => by have h1 := HXN.out i hi; have h2 := HE1.out.size; omega))
        clear hX4 d0
        by_cases hvh : v = h
        · have HF := Lib.hid (VerE.ok HOK.out HB.out HDS.out HNL.out HK.out (HV.out.trans hvh))
          have hvb : (v != h) = false := by simpa using hvh
          clear hvh
          go_wp2_with fail
          go_ret
          exact ⟨0, HF.out, rfl, HE4.out⟩
        · have HF := Lib.hid (VerE.sum HOK.out HB.out HDS.out HNL.out HK.out (by rw [HV.out]; exact hvh))
          have hvb : (v != h) = true := by simpa using hvh
          clear hvh
          go_wp2_with fail
          go_ret
          exact ⟨19, HF.out, rfl, HE4.out⟩
      · have hnb : ((n9 : Int) != (n : Int)) = true := by simp; omega
        have HF := Lib.hid (VerE.less (h := h) HOK.out HB.out HDS.out (by have := HLE.out; omega))
        clear hl9 hds hb hle hF9 hnn
        go_wp2_with fail
        go_ret
        exact ⟨1, HF.out, rfl, (HE1.out.trans HE2.out).trans HE3.out⟩
set_option linter.unusedSimpArgs false in
set_option maxHeartbeats 8000000 in
set_option maxRecDepth 100000 in
theorem rVerify_c (A : Option Addr) (n c : Nat) (d : List Fl) (x : Lt) (h : Int) (w : World) (hF : FlowsAt w A n c d) (hn : n ≤ 100) (hz : ∀ f ∈ d, f.parts.length ≤ 500 ∧ f.made.length ≤ 500) (hx : WfL x) :
    Calls Tryz.prog 15 #[.slice A n c, ltV x, .int .u64 h] w (RetVer w d x h) := by
  obtain ⟨w1, hw1⟩ : ∃ w1, w.alloc (.cells #[.int .i64 x.1, .int .i64 x.2.1, .int .i64 x.2.2] 30) = w1 := ⟨_, rfl⟩
  have hE1 : E w w1 := by rw [← hw1]; exact (E.refl w).alloc _
  have hx3 := cells3_new w (.int .i64 x.1) (.int .i64 x.2.1) (.int .i64 x.2.2) 30
  rw [hw1] at hx3
  have HZ1 := Lib.hid (show w.heap.size < w1.heap.size by rw [← hw1]; simp)
  have HCK := Lib.hid (check_c A n c d w1 (hF.e hE1) (by omega) (fun f hf => by have := hz f hf; omega))
  have HF1 := Lib.hid (fun W (hE : E w1 W) => hF.e (hE1.trans hE))
  have HE1 := Lib.hid hE1
  have HX3 := Lib.hid hx3
  have HX := Lib.hid hx
  have HZ := Lib.hid hz
  have HN := Lib.hid hn
  have HL := Lib.hid hF.len
  have hn63 := hF.n63
  clear hE1 hx hz hn hF hx3
  unfold ltV
  go_enter Tryz.func15, Tryz.ntmps15
  go_upto_region 1 with fail
  try rw [hw1]
  clear hw1
  go_upto_region 2 with (go_at_call 44; refine HCK.out.mono ?_; rintro e w2 ⟨r, hr, rfl, hE2⟩)
  have HR := Lib.hid hr
  have HE2 := Lib.hid hE2
  clear hE2 HCK
  by_cases hr0 : r = 0
  · subst hr0
    have hok := hr.zero
    have HOK := Lib.hid hok
    have d0 := (HE2.out.cell (p := ⟨w.heap.size, 0, none⟩) HZ1.out).trans HX3.out.1
    have d1 := (HE2.out.cell (p := ⟨w.heap.size, 1, none⟩) HZ1.out).trans HX3.out.2.1
    have d2 := (HE2.out.cell (p := ⟨w.heap.size, 2, none⟩) HZ1.out).trans HX3.out.2.2
    have HOF := Lib.hid (refOf_c A n c d x w2 (HF1.out w2 HE2.out) HX.out)
    unfold ltV at HOF
    obtain ⟨bv, hbv⟩ : ∃ bv, hasF d x = bv := ⟨_, rfl⟩
    rw [hbv] at HOF
    have HB := Lib.hid hbv
    clear hok hr hbv
    cases bv
    · go_wp2_with (go_at_call 45; refine HOF.out.mono ?_; rintro e w3 ⟨rfl, hE3⟩)
      go_ret
      exact ⟨7, .none_ HOK.out HB.out, rfl, (HE1.out.trans HE2.out).trans hE3⟩
    · go_upto_region 7 with (go_at_call 45; refine HOF.out.mono ?_; rintro e w3 ⟨rfl, hE3⟩)
      have HE3 := Lib.hid (HE2.out.trans hE3)
      clear hE3 d0 d1 d2 HOF
      have d0 := (HE3.out.cell (p := ⟨w.heap.size, 0, none⟩) HZ1.out).trans HX3.out.1
      have d1 := (HE3.out.cell (p := ⟨w.heap.size, 1, none⟩) HZ1.out).trans HX3.out.2.1
      have d2 := (HE3.out.cell (p := ⟨w.heap.size, 2, none⟩) HZ1.out).trans HX3.out.2.2
      have HDC := Lib.hid ((refDerive_c A n c d x w3 (HF1.out w3 HE3.out) HOK.out HX.out (fun f hf => by have := HZ.out f hf; omega) (by have := HN.out; omega)).mono fun _ _ h => h.two)
      unfold ltV at HDC
      go_upto_region 8 with (go_at_call 25; refine HDC.out.mono ?_; rintro e w4 ⟨hE4, A9, n9, c9, r9, rfl, hor9⟩)
      have HE4 := Lib.hid (HE3.out.trans hE4)
      clear hE4 HDC d0 d1 d2
      rcases hor9 with ⟨_, hb⟩ | ⟨rfl, _, ds, hds, hF9⟩
      · rw [HB.out] at hb; cases hb
      · have HDS := Lib.hid hds
        have hle := hds.len HOK.out.ids
        have HLE := Lib.hid (show ds.length = n9 ∧ ds.length ≤ d.length ∧ d.length = n from ⟨hF9.len, hle, HL.out⟩)
        by_cases hnn : n9 < n
        · have hnb : (n9 : Int) < (n : Int) := by omega
          have HF := Lib.hid (VerE.less (h := h) HOK.out HB.out HDS.out (by have := HLE.out; omega))
          clear hds hle hF9 hnn
          go_wp2_with fail
          go_ret
          exact ⟨1, HF.out, rfl, HE1.out.trans HE4.out⟩
        · have hnb : ¬ (n9 : Int) < (n : Int) := by omega
          have HNL := Lib.hid (show ¬ ds.length < d.length by have := HLE.out; omega)
          obtain ⟨k, hk⟩ := HOK.out.hash
          obtain ⟨rk, hrk⟩ := HOK.out.rk
          obtain ⟨_, f0, hgf0, _⟩ := hasF_iff.1 HB.out
          have HHC := Lib.hid (refHash_c d rk hrk HOK.out k hk (fun f hf => by have := HZ.out f hf; omega) A n c (rk x.1 + 1) x.1 w4 (Nat.lt_succ_self _) (HF1.out w4 HE4.out) ⟨f0, hgf0⟩)
          have HK := Lib.hid hk
          have d0 := (HE4.out.cell (p := ⟨w.heap.size, 0, none⟩) HZ1.out).trans HX3.out.1
          obtain ⟨v, hv⟩ : ∃ v, k x.1 = v := ⟨_, rfl⟩
          have HV := Lib.hid hv
          rw [hv] at HHC
          clear hds hle hF9 hnn hk hrk hgf0 hv
          by_cases hvh : v = h
          · have HF := Lib.hid (VerE.ok HOK.out HB.out HDS.out HNL.out HK.out (HV.out.trans hvh))
            have hvb : (v != h) = false := by simpa using hvh
            clear hvh
            go_wp2_with (go_at_call 26; refine HHC.out.mono ?_; rintro e w5 ⟨rfl, hE5⟩)
            go_ret
            exact ⟨0, HF.out, rfl, (HE1.out.trans HE4.out).trans hE5⟩
          · have HF := Lib.hid (VerE.sum HOK.out HB.out HDS.out HNL.out HK.out (by rw [HV.out]; exact hvh))
            have hvb : (v != h) = true := by simpa using hvh
            clear hvh
            go_wp2_with (go_at_call 26; refine HHC.out.mono ?_; rintro e w5 ⟨rfl, hE5⟩)
            go_ret
            exact ⟨19, HF.out, rfl, (HE1.out.trans HE4.out).trans hE5⟩
  · have hrb : (r != 0) = true := by simpa using hr0
    have HR0 := Lib.hid hr0
    clear hr0 hr
    go_wp2_with fail
    go_ret
    exact ⟨r, .bad HR.out HR0.out, rfl, HE1.out.trans HE2.out⟩
end Go.Proofs.YtmeplpiamkaniaaGreat
