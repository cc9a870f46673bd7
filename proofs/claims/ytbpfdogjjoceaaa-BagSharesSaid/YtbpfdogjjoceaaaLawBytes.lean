/- The walk of BagBytes. -/
import Derived.Test.YtbpfdogjjoceaaaRI
import Derived.Outline
import Derived.Deep.RegionWith
import Derived.Deep.DrawnRows
import Derived.IntWalk
import Derived.Deep.DeepCutAuto
import Derived.Deep.RegionHeld3
namespace Go.Proofs.Ytbpfdogjjoceaaa
open Go.RowKit
attribute [local go_sem ↓] Go.wp_at_zero Go.wp_at_succ

theorem OwnB.one {w : World} {A : Option Addr} {n c : Nat} {l : List Int} (h : Byt w A n c l) (hn : n ≤ 100000) : OwnB (w.alloc (.cells #[.slice A n c] 47)) w.heap.size (some ⟨w.heap.size, 0, none⟩) 1 1 := by
  refine ⟨[.slice A n c], ⟨rfl, .inr ⟨w.heap.size, 1, _, rfl, Nat.le_refl _, heap_alloc_new w _, Nat.le_refl _, by unfold maxLen; omega, rfl, rfl⟩⟩, fun v hv => ?_⟩
  simp at hv
  subst hv
  exact ⟨A, n, c, l, rfl, h.e ((E.refl w).alloc _), hn⟩
theorem OwnB.rebase {w : World} {base base' : Nat} {A : Option Addr} {n c : Nat} (h : OwnB w base A n c) (hb : base' ≤ base) : OwnB w base' A n c := by
  obtain ⟨xs, ⟨a1, a2⟩, h2⟩ := h
  refine ⟨xs, ⟨a1, ?_⟩, h2⟩
  rcases a2 with a2 | ⟨g, cap, cur, hv, hb', r⟩
  · exact .inl a2
  · exact .inr ⟨g, cap, cur, hv, by omega, r⟩
theorem enc_len (l : List Int) : (encodeS l).length ≤ 1099511627776 := by
  unfold encodeS
  split
  · rename_i h
    have h1 := isBag_len h
    have h2 := amF_len l 0
    have ha : amountsS l = amF 0 l := by simp [amountsS, h]
    have hr : ∀ x ∈ amountsS l, (Lit.int .i64 x.1).wf = true ∧ (Lit.int .i64 x.2).wf = true := by
      intro x hx
      have hv := (lists_facts h).2
      simp only [validS, Bool.and_eq_true] at hv
      have := (List.all_eq_true.1 (properF_amF hv.2)) x hx
      simp only [properB, Bool.and_eq_true, decide_eq_true_eq] at this
      exact ⟨wf_of_i64 (by omega) (by omega), wf_of_i64 (by omega) (by omega)⟩
    have h3 := encF_len _ hr
    have h4 := uv_len10 (zig_lt (l.length : Int) (by omega) (by omega))
    have h5 := uv_len10 (zig_lt ((amountsS l).length : Int) (by omega) (by rw [ha]; omega))
    rw [ha] at h3 h5
    simp only [List.length_append, ha]; omega
  · simp
theorem enc_len2 (l : List Int) : (encodeS l).length ≤ 100000 := by
  unfold encodeS
  split
  · rename_i h
    have h1 := isBag_len h
    have h2 := amF_len l 0
    have ha : amountsS l = amF 0 l := by simp [amountsS, h]
    have hr : ∀ x ∈ amountsS l, (Lit.int .i64 x.1).wf = true ∧ (Lit.int .i64 x.2).wf = true := by
      intro x hx
      have hv := (lists_facts h).2
      simp only [validS, Bool.and_eq_true] at hv
      have := (List.all_eq_true.1 (properF_amF hv.2)) x hx
      simp only [properB, Bool.and_eq_true, decide_eq_true_eq] at this
      exact ⟨wf_of_i64 (by omega) (by omega), wf_of_i64 (by omega) (by omega)⟩
    have h3 := encF_len _ hr
    have h4 := uv_len10 (zig_lt (l.length : Int) (by omega) (by omega))
    have h5 := uv_len10 (zig_lt ((amountsS l).length : Int) (by omega) (by rw [ha]; omega))
    rw [ha] at h3 h5
    simp only [List.length_append, ha]; omega
  · simp
theorem uv_pos (n : Nat) : 0 < (uv n).length := by
  by_cases h : n < 128
  · rw [uv_small h]; simp
  · rw [uv_big h]; simp
theorem enc_pos {l : List Int} (h : isBagB l = true) : 0 < (encodeS l).length := by
  simp only [encodeS, h, if_true, List.length_append]
  have := uv_pos (zig l.length)
  omega
theorem Nums.takeB {w : World} {A : Option Addr} {n c : Nat} {l : List Int} (h : Nums .u8 w A n c l) {m : Nat} (hm : m ≤ n) : Nums .u8 w A m c (l.take m) := by
  have htl : (l.take m).length = m := by rw [List.length_take, h.len]; omega
  refine ⟨htl, by have := h.cap; omega, h.mx, fun x hx => h.wf x (List.mem_of_mem_take hx), fun h0 => ?_⟩
  obtain ⟨b, o, h1, h2, h3⟩ := h.at_ (by omega)
  refine ⟨b, o, h1, h2, fun i hi => ?_⟩
  rw [List.getElem_take]
  exact h3 i (by rw [htl] at hi; rw [h.len]; omega)

set_option maxHeartbeats 8000000 in
set_option maxRecDepth 100000 in
theorem bagBytes_w (N p v : Int) (A : Option Addr) (n c : Nat) (l : List Int) (Ar : Option Addr) (nr cr : Nat) (lr : List Int) (w : World) (h : Nums .i64 w A n c l) (hr : Nums .u8 w Ar nr cr lr) (hN1 : -9223372036854775808 ≤ N) (hN2 : N ≤ 9223372036854775807) (hp1 : -9223372036854775808 ≤ p) (hp2 : p ≤ 9223372036854775807) (hv1 : -9223372036854775808 ≤ v) (hv2 : v ≤ 9223372036854775807) :
    Calls Try.prog 10 #[.int .i64 N, .slice A n c, .int .i64 p, .int .i64 v, .slice Ar nr cr] w (RetB w true) := by
  have hrm := hr.n63
  have hrc := hr.c63
  have hrcap := hr.cap
  go_enter Try.func10, Try.ntmps10
  go_wp2_with fail
  refine (bags_c N p v _ _ _ _ _ h hN1 hN2 hp1 hp2 (wf_of_i64 hv1 hv2)).mono ?_
  rintro e w2 ⟨A1, n1, c1, rfl, hM2, hE2⟩
  have hn1 : n1 = 3 := by rw [← hM2.len]; rfl
  subst hn1
  have hE2a := hE2.alloc (.cells #[] 5)
  replace hr := hr.e hE2a
  go_upto_region 2 with fail
  go_cut [12] (fun s12 wx => ∃ Ac, s12 = .slice Ac 1 1 ∧ OwnB wx w2.heap.size Ac 1 1 ∧ E w2 wx)
  case first =>
    by_cases h30 : (30 : Int) < (nr : Int)
    · have hr30 := hr.takeB (m := 30) (by omega)
      go_wp2_with (at_builtin; refine wpList_appN byteT _ rfl _ _ rfl w2.heap.size _ _ _ [] rfl (Own.empty w2 _ _) _ _ _ _ rfl hr30 (by omega) (by simp) ?_; intro Aq cq w3 hO3 hG3 hB3)
      have hO3' : Own .u8 5 w3 w2.heap.size Aq 30 cq (lr.take 30) := by simpa using hO3
      have hE23 : E w2 w3 := ((E.refl w2).alloc _).up hB3
      go_meet
      exact ⟨_, rfl, (OwnB.one hO3'.byt (by omega)).rebase hE23.le, hE23.alloc _⟩
    · have hrn := hr.takeB (m := nr) (Nat.le_refl _)
      go_wp2_with (at_builtin; refine wpList_appN byteT _ rfl _ _ rfl w2.heap.size _ _ _ [] rfl (Own.empty w2 _ _) _ _ _ _ rfl hrn (by omega) (by simp) ?_; intro Aq cq w3 hO3 hG3 hB3)
      have hO3' : Own .u8 5 w3 w2.heap.size Aq nr cq (lr.take nr) := by simpa using hO3
      have hE23 : E w2 w3 := ((E.refl w2).alloc _).up hB3
      go_meet
      exact ⟨_, rfl, (OwnB.one hO3'.byt (by omega)).rebase hE23.le, hE23.alloc _⟩
  case rest =>
  obtain ⟨Ac0, rfl, hC, hE4⟩ := hcut
  generalize wc = w4 at *
  have hM3 := hM2
  have hE3 := hE2
  clear hE2a hr hM2 hE2
  obtain ⟨w3, rfl⟩ : ∃ w3 : World, w3 = w2 := ⟨_, rfl⟩
  go_wp2_with fail
  go_loopw [12, 13] (fun tc ti wr => ∃ (i nc cc : Nat) (Ac : Option Addr), i ≤ 3 ∧ ti = .int .i64 i ∧ tc = .slice Ac nc cc ∧ OwnB wr w3.heap.size Ac nc cc ∧ nc ≤ 1 + 2 * i ∧ E w3 wr) (fun _ ti _ => 3 - (intOf ti).toNat)
  case atStart => exact ⟨0, 1, 1, _, by omega, rfl, rfl, hC, by omega, hE4⟩
  case round =>
    obtain ⟨i, nc, cc, Ac, hi, rfl, rfl, hcd, hnc, hE⟩ := hrel
    by_cases hlt : (i : Int) < 3
    · obtain ⟨bm, om, Ai, ni, ci, li, rfl, hbm, _, hci, hNi⟩ := (hM3.e hE).get (i := i) (by omega)
      go_wp2_with fail
      refine (encode_c _ _ _ _ _ hNi).mono ?_
      rintro e w5 ⟨A5, n5, c5, rfl, hO5, hE5⟩
      replace hci := (hE5.cell (p := ⟨bm, _, none⟩) hbm).trans hci
      replace hbm := Nat.lt_of_lt_of_le hbm hE5.le
      replace hNi := hNi.e hE5
      replace hcd := hcd.e hE5
      replace hE := hE.trans hE5
      clear hE5
      go_wp2_with fail
      refine (refEncode_c _ _ _ _ _ hNi).mono ?_
      rintro e w6 ⟨A6, n6, c6, rfl, hO6, hE6⟩
      replace hci := (hE6.cell (p := ⟨bm, _, none⟩) hbm).trans hci
      replace hbm := Nat.lt_of_lt_of_le hbm hE6.le
      replace hNi := hNi.e hE6
      replace hcd := hcd.e hE6
      replace hE := hE.trans hE6
      replace hO5 := hO5.e hE6
      clear hE6
      have hs : sameB (encodeS li) (encodeS li) = true := sameB_refl _
      go_wp2_with fail
      refine (bytesAre_c _ _ _ _ _ _ _ _ _ hO5.reads hO6.reads).mono ?_
      rintro e w' ⟨rfl, rfl⟩
      cases hbag : isBagB li
      · go_wp2_with (go_at_call 31; refine (refIs_c _ _ _ _ _ hNi).mono ?_; rintro e w' ⟨rfl, rfl⟩)
        go_roundw
        case rel => exact ⟨i + 1, nc, cc, Ac, by omega, by go_num, rfl, hcd, by omega, hE⟩
        case measure => simp [intOf]; omega
      · have HD := Lib.hid (decode_encode hbag)
        go_wp2_with (go_at_call 31; refine (refIs_c _ _ _ _ _ hNi).mono ?_; rintro e w' ⟨rfl, rfl⟩)
        refine (decode_c _ _ _ _ _ hO5.reads (by rw [← hO5.1]; exact enc_len li)).mono ?_
        rintro e w7 ⟨A7, n7, c7, rfl, hO7, hE7⟩
        rw [HD.out] at hO7 ⊢
        replace hci := (hE7.cell (p := ⟨bm, _, none⟩) hbm).trans hci
        replace hbm := Nat.lt_of_lt_of_le hbm hE7.le
        replace hNi := hNi.e hE7
        replace hcd := hcd.e hE7
        replace hE := hE.trans hE7
        replace hO5 := hO5.e hE7
        clear hE7
        go_wp2_with fail
        refine (same_te _ _ _ _ _ _ _ _ hO7.reads hNi).mono ?_
        rintro e w8 ⟨rfl, hE8⟩
        replace hcd := hcd.e hE8
        replace hE := hE.trans hE8
        replace hO5 := hO5.e hE8
        clear hE8 hO7 hci hbm hNi
        go_wp2_with (at_builtin; refine wpList_appN byteT _ rfl _ _ rfl w8.heap.size _ _ _ [] rfl (Own.empty w8 _ _) _ _ _ _ rfl (hO5.reads.e ((E.refl _).alloc _)) (by rw [Nat.zero_add, ← hO5.1]; exact enc_len li) (by simp) ?_; intro At ct w9 hO9 hG9 hB9)
        simp only [Nat.zero_add, List.nil_append] at hO9 ⊢
        have hE89 : E w8 w9 := ((E.refl w8).alloc _).up hB9
        have h5p : 0 < n5 := by rw [← hO5.1]; exact enc_pos hbag
        have h5l : n5 ≤ 100000 := by rw [← hO5.1]; exact enc_len2 li
        have hn5I : (0 : Int) < (n5 : Int) := by omega
        clear hG9 hB9
        refine (around_c p n5 _ hp1 hp2 hn5I (by omega)).mono ?_
        rintro e w' ⟨rfl, rfl⟩
        obtain ⟨j, hj⟩ : ∃ j : Nat, p % (n5 : Int) = j := ⟨(p % (n5 : Int)).toNat, by have := Int.emod_nonneg p (show (n5 : Int) ≠ 0 by omega); omega⟩
        have hjl : j < n5 := by have := Int.emod_lt_of_pos p hn5I; omega
        rw [hj]
        clear hj
        go_wp2_with fail
        refine (around_c v 256 _ hv1 hv2 (by omega) (by omega)).mono ?_
        rintro e w' ⟨rfl, rfl⟩
        obtain ⟨u, hu, hu0, hu1⟩ : ∃ u : Int, v % 256 = u ∧ 0 ≤ u ∧ u ≤ 255 := ⟨_, rfl, by omega, by omega⟩
        rw [hu]
        clear hu
        obtain ⟨gt, xo, rfl, hgt1, hgt2, _, _, hct, hft⟩ := hO9.get hjl
        have hset := hO9.set j u (WalkArith.wf_u8 ⟨hu0, hu1⟩)
        have hjI : (j : Int) < (n5 : Int) := by omega
        have hEs := hE89.setCell (p := ⟨gt, j, none⟩) hgt1 (.int .u8 u)
        have hcd' := hcd.e hEs
        have hE' := hE.trans hEs
        have hO5' := hO5.e hEs
        have hcap5 := hO5.reads.cap
        have hc63 := hO5.reads.c63
        have hB1 := hset.byt
        have hB2 := hO5'.byt.take (m := n5 - 1) (by omega)
        have hle' := hE'.le
        have hs1 : IntKind.i64.wrap ((n5 : Int) - 1) = ((n5 - 1 : Nat) : Int) := by rw [IntWalk.i64_in _ (by omega)]; omega
        clear hcd hE hO5 hE89 hEs hset hO9
        generalize hw10 : w9.setCell ⟨gt, j, none⟩ (.int .u8 u) = w10 at *
        go_wp2_with (at_builtin; go_loud (refine wpList_appB Try.underlying48 (by kernel_rfl) w10 rfl _ _ rfl w3.heap.size _ _ _ rfl hcd' _ _ _ _ _ _ _ _ rfl hB1 hB2 (by omega) (by omega) (by omega) hle' ?_); intro Ac' cc' w11 hcd11 hB11)
        go_roundw
        case rel => exact ⟨i + 1, nc + 2, cc', Ac', by omega, by go_num, rfl, hcd11, by omega, hE'.up hB11⟩
        case measure => simp [intOf]; omega
    · have hncI : (nc : Int) ≤ 7 := by omega
      clear hM3
      replace hE := hE3.trans hE
      go_wp2_with fail
      go_loopw [18] (fun ti wr => ∃ k : Nat, k ≤ nc ∧ ti = .int .i64 k ∧ OwnB wr w3.heap.size Ac nc cc ∧ E w wr) (fun ti _ => nc - (intOf ti).toNat)
      case atStart => exact ⟨0, Nat.zero_le _, rfl, hcd, hE⟩
      case round =>
        clear hcd hE
        obtain ⟨k, hk, rfl, hcd, hE⟩ := hrel
        obtain ⟨wi, rfl⟩ : ∃ wo : World, wo = wr := ⟨_, rfl⟩
        by_cases hkn : k < nc
        · obtain ⟨g, A', n', c', l', rfl, hg, hcell, hByt, hn'⟩ := hcd.get hkn
          have hkI : (k : Int) < (nc : Int) := by omega
          have hany := decode_any (c := l') (fun z hz => by have := hByt.nums.wf z hz; exact wf_u8 this)
          go_wp2_with fail
          refine (decode_c _ _ _ _ _ hByt.nums (by omega)).mono ?_
          rintro e w5 ⟨A5, n5, c5, rfl, hO5, hE5⟩
          replace hcell := (hE5.cell (p := ⟨g, k, none⟩) hg).trans hcell
          replace hg := Nat.lt_of_lt_of_le hg hE5.le
          replace hByt := hByt.e hE5
          replace hcd := hcd.e hE5
          replace hE := hE.trans hE5
          clear hE5
          generalize decodeS l' = r at *
          obtain ⟨dl, de⟩ := r
          rcases hany with ⟨h1, h2⟩ | ⟨h1, h2⟩
          · simp only at h1 h2
            subst h1 h2
            obtain rfl : n5 = 0 := by rw [← hO5.1]; rfl
            clear hByt hcell hO5
            go_wp2_with fail
            go_quiet (fail)
            go_wp2_with fail
            go_roundw
            case rel => exact ⟨k + 1, by omega, by go_num, hcd.e ((E.refl _).drewN _), hE.drewN _⟩
            case measure => simp [intOf]; omega
          · simp only at h1 h2
            subst h1
            have HE := Lib.hid h2
            clear h2
            have P1 := Lib.hid (fun W hN => refEncode_c A5 n5 c5 dl W hN)
            rw [HE.out] at P1
            have hs : sameB l' l' = true := sameB_refl _
            have hcd5 := Lib.hid hcd
            have hEw5 := Lib.hid hE
            clear hcd hE
            go_upto_region 20 with fail
            go_cut [131] (fun s131 wx => s131 = .bool false ∧ E w5 wx)
            case first =>
              refine wp_region_any (by kernel_rfl) ?_
              change wpAny _ _ _ _ _ _ _ (World.drew _)
              refine wpAny_take (i := 0) (v := (.int .i64 0)) rfl (by kernel_rfl) (by kernel_rfl) (by kernel_rfl) (fun _ _ _ h => h) (Or.inl ⟨by kernel_rfl, fun w => by kernel_rfl⟩) ?_
              refine wpAny_take (i := 1) (v := (.bool false)) rfl (by kernel_rfl) (by kernel_rfl) (by kernel_rfl) (fun _ _ _ h => h) (Or.inl ⟨by kernel_rfl, fun w => by kernel_rfl⟩) ?_
              refine wpAny_take (i := 2) (v := (.bool false)) rfl (by kernel_rfl) (by kernel_rfl) (by kernel_rfl) (fun _ _ _ h => h) (Or.inl ⟨by kernel_rfl, fun w => by kernel_rfl⟩) ?_
              refine wpAny_take (i := 3) (v := undef) rfl (by kernel_rfl) (by kernel_rfl) (by kernel_rfl) (fun _ _ _ h => h) (Or.inr ⟨by kernel_rfl, rfl⟩) ?_
              refine wpAny_take (i := 4) (v := undef) rfl (by kernel_rfl) (by kernel_rfl) (by kernel_rfl) (fun _ _ _ h => h) (Or.inr ⟨by kernel_rfl, rfl⟩) ?_
              refine wpAny_take (i := 5) (v := undef) rfl (by kernel_rfl) (by kernel_rfl) (by kernel_rfl) (fun _ _ _ h => h) (Or.inr ⟨by kernel_rfl, rfl⟩) ?_
              refine wpAny_take (i := 6) (v := undef) rfl (by kernel_rfl) (by kernel_rfl) (by kernel_rfl) (fun _ _ _ h => h) (Or.inr ⟨by kernel_rfl, rfl⟩) ?_
              refine wpAny_take (i := 7) (v := undef) rfl (by kernel_rfl) (by kernel_rfl) (by kernel_rfl) (fun _ _ _ h => h) (Or.inr ⟨by kernel_rfl, rfl⟩) ?_
              refine wpAny_take (i := 8) (v := undef) rfl (by kernel_rfl) (by kernel_rfl) (by kernel_rfl) (fun _ _ _ h => h) (Or.inr ⟨by kernel_rfl, rfl⟩) ?_
              refine wpAny_take (i := 9) (v := undef) rfl (by kernel_rfl) (by kernel_rfl) (by kernel_rfl) (fun _ _ _ h => h) (Or.inr ⟨by kernel_rfl, rfl⟩) ?_
              refine wpAny_take (i := 10) (v := (.bool false)) rfl (by kernel_rfl) (by kernel_rfl) (by kernel_rfl) (fun _ _ _ h => h) (Or.inl ⟨by kernel_rfl, fun w => by kernel_rfl⟩) ?_
              refine wpAny_take (i := 11) (v := (.bool false)) rfl (by kernel_rfl) (by kernel_rfl) (by kernel_rfl) (fun _ _ _ h => h) (Or.inl ⟨by kernel_rfl, fun w => by kernel_rfl⟩) ?_
              refine wpAny_take (i := 12) (v := (.int .i64 0)) rfl (by kernel_rfl) (by kernel_rfl) (by kernel_rfl) (fun _ _ _ h => h) (Or.inl ⟨by kernel_rfl, fun w => by kernel_rfl⟩) ?_
              refine wpAny_take (i := 13) (v := (.bool true)) rfl (by kernel_rfl) (by kernel_rfl) (by kernel_rfl) (fun _ _ _ h => h) (Or.inl ⟨by kernel_rfl, fun w => by kernel_rfl⟩) ?_
              refine wpAny_take (i := 14) (v := (.bool true)) rfl (by kernel_rfl) (by kernel_rfl) (by kernel_rfl) (fun _ _ _ h => h) (Or.inl ⟨by kernel_rfl, fun w => by kernel_rfl⟩) ?_
              refine wpAny_take (i := 15) (v := (.slice A5 n5 c5)) rfl (by kernel_rfl) (by kernel_rfl) (by kernel_rfl) (fun _ _ _ h => h) (Or.inl ⟨by kernel_rfl, fun w => by kernel_rfl⟩) ?_
              refine wpAny_take (i := 17) (v := (.slice (some ⟨g, 0, none⟩) nc cc)) rfl (by kernel_rfl) (by kernel_rfl) (by kernel_rfl) (fun _ _ _ h => h) (Or.inl ⟨by kernel_rfl, fun w => by kernel_rfl⟩) ?_
              refine wpAny_take (i := 18) (v := (.int .i64 k)) rfl (by kernel_rfl) (by kernel_rfl) (by kernel_rfl) (fun _ _ _ h => h) (Or.inl ⟨by kernel_rfl, fun w => by kernel_rfl⟩) ?_
              refine wpAny_take (i := 19) (v := ?_) rfl (by kernel_rfl) (by kernel_rfl) (by kernel_rfl) (fun _ _ _ h => h) (Or.inl ⟨by kernel_rfl, ?_⟩) ?_
              rotate_left 1
              · intro w
                go_simp
                with_reducible rfl
              refine wpAny_ready (rs := [16, 20]) (by kernel_rfl) (by simp) ?_
              refine AllReady.cons rfl (fun K hK => ?_) (AllReady.cons rfl (fun K hK => ?_) AllReady.nil)
              · rw [if_pos (by kernel_rfl)]
                go_simp
                refine (P1.out _ (hO5.reads.e ((E.refl _).drew))).mono ?_
                rintro e w6 ⟨A6, n6, c6, rfl, hO6, hE6⟩
                have hc6 := ((((E.refl _).drew).trans hE6).cell (p := ⟨g, k, none⟩) hg).trans hcell
                go_wp2_with fail
                refine wpAny_ready (rs := [20]) (by kernel_rfl) (by simp) ?_
                refine AllReady.cons rfl (fun K hK => ?_) AllReady.nil
                rw [if_pos (by kernel_rfl)]
                go_simp
                refine hK _ _ ?_
                clear hK K
                refine wpAny_ready (rs := [21]) (by kernel_rfl) (by simp) ?_
                refine AllReady.cons rfl (fun K hK => ?_) AllReady.nil
                rw [if_pos (by kernel_rfl)]
                go_simp
                refine (bytesAre_c _ _ _ _ _ _ l' l' _ hO6.reads (hByt.nums.e (((E.refl _).drew).trans hE6))).mono ?_
                rintro e w' ⟨rfl, rfl⟩
                rw [hs]
                go_wp2_with fail
                refine wpAny_take (i := 22) (v := (.bool false)) rfl (by kernel_rfl) (by kernel_rfl) (by kernel_rfl) (fun _ _ _ h => h) (Or.inl ⟨by kernel_rfl, fun w => by kernel_rfl⟩) ?_
                refine wpAny_take (i := 23) (v := (.bool false)) rfl (by kernel_rfl) (by kernel_rfl) (by kernel_rfl) (fun _ _ _ h => h) (Or.inl ⟨by kernel_rfl, fun w => by kernel_rfl⟩) ?_
                refine wpAny_take (i := 24) (v := (.bool false)) rfl (by kernel_rfl) (by kernel_rfl) (by kernel_rfl) (fun _ _ _ h => h) (Or.inl ⟨by kernel_rfl, fun w => by kernel_rfl⟩) ?_
                refine wpAny_done (by kernel_rfl) ?_ _
                go_simp
                go_wp2_with fail
                go_meet
                exact ⟨rfl, ((E.refl _).drew).trans hE6⟩
              · rw [if_pos (by kernel_rfl)]
                go_simp
                refine hK _ _ ?_
                clear hK K
                refine wpAny_ready (rs := [16]) (by kernel_rfl) (by simp) ?_
                refine AllReady.cons rfl (fun K hK => ?_) AllReady.nil
                rw [if_pos (by kernel_rfl)]
                go_simp
                refine (P1.out _ (hO5.reads.e ((E.refl _).drew))).mono ?_
                rintro e w6 ⟨A6, n6, c6, rfl, hO6, hE6⟩
                have hc6 := ((((E.refl _).drew).trans hE6).cell (p := ⟨g, k, none⟩) hg).trans hcell
                go_wp2_with fail
                refine wpAny_ready (rs := [21]) (by kernel_rfl) (by simp) ?_
                refine AllReady.cons rfl (fun K hK => ?_) AllReady.nil
                rw [if_pos (by kernel_rfl)]
                go_simp
                refine (bytesAre_c _ _ _ _ _ _ l' l' _ hO6.reads (hByt.nums.e (((E.refl _).drew).trans hE6))).mono ?_
                rintro e w' ⟨rfl, rfl⟩
                rw [hs]
                go_wp2_with fail
                refine wpAny_take (i := 22) (v := (.bool false)) rfl (by kernel_rfl) (by kernel_rfl) (by kernel_rfl) (fun _ _ _ h => h) (Or.inl ⟨by kernel_rfl, fun w => by kernel_rfl⟩) ?_
                refine wpAny_take (i := 23) (v := (.bool false)) rfl (by kernel_rfl) (by kernel_rfl) (by kernel_rfl) (fun _ _ _ h => h) (Or.inl ⟨by kernel_rfl, fun w => by kernel_rfl⟩) ?_
                refine wpAny_take (i := 24) (v := (.bool false)) rfl (by kernel_rfl) (by kernel_rfl) (by kernel_rfl) (fun _ _ _ h => h) (Or.inl ⟨by kernel_rfl, fun w => by kernel_rfl⟩) ?_
                refine wpAny_done (by kernel_rfl) ?_ _
                go_simp
                go_wp2_with fail
                go_meet
                exact ⟨rfl, ((E.refl _).drew).trans hE6⟩
            case rest =>
              obtain ⟨rfl, hE7⟩ := hcut
              generalize wc = w7 at *
              go_wp2_with fail
              go_roundw
              case rel => exact ⟨k + 1, by omega, by go_num, hcd5.out.e hE7, hEw5.out.trans hE7⟩
              case measure => simp [intOf]; omega
        · go_wp2_with fail
          refine (lives_c _).mono ?_
          rintro e w9 ⟨rfl, hE9⟩
          go_wp2_with fail
          go_ret
          exact ⟨rfl, hE.trans hE9⟩
end Go.Proofs.Ytbpfdogjjoceaaa
