/- The walk of BidsEncoding. -/
import Derived.Test.YtpbkfpkgbfifaaaKR
import Derived.Test.YtpbkfpkgbfifaaaKSp
import Derived.Test.YtpbkfpkgbfifaaaKLv
import Derived.Test.YtpbkfpkgbfifaaaKSm
import Derived.Test.YtpbkfpkgbfifaaaCE
namespace Go.Proofs.Ytpbkfpkgbfifaaa
open Go.RowKit

theorem lotsOk_short : ∀ (l : List Int) (n last : Int), lotsOk n last l = true → last < n → (l.length : Int) ≤ n - last - 1
  | [], n, last, _, h => by simp; omega
  | t :: l, n, last, h, _ => by
    simp only [lotsOk, Bool.and_eq_true, decide_eq_true_eq] at h
    have := lotsOk_short l n t h.2 h.1.2
    simp only [List.length_cons]; omega
theorem gen_1000 {K : Int} {l : List Bd} (h : Gen K l) (hK : K ≤ 8) (hK1 : 1 ≤ K) : ∀ x ∈ l, x.2.2.length ≤ 1000 := fun x hx => by
  have := lotsOk_short _ _ _ (bidE_ok (h x hx).1).2.2.2 (by omega)
  omega
theorem gen_lots7 {K : Int} {T : TypeId} {w : World} {base : Nat} {A : Option Addr} {n c : Nat} {q : List (Bd × Sl)} (hR : BRow T w base A n c q) {l : List Bd} (hq : q.map Prod.fst = l) (hg : Gen K l) (hK : K ≤ 8) (hK1 : 1 ≤ K) : ∀ p ∈ q, p.2.2.1 ≤ 1000 := fun p hp => by
  have h1 := gen_1000 hg hK hK1 p.1 (by rw [← hq]; exact List.mem_map_of_mem hp)
  have h2 := (hR.2.2 p hp).2.2.1.len
  omega

theorem zb_len {v : Int} (h : I64 v) : (zb v).length ≤ 10 := uv_len10 (zig_lt v h.1 h.2)
theorem zbs_len (l : List Int) (h : ∀ x ∈ l, I64 x) : (zbs l).length ≤ 10 * l.length := by
  induction l with
  | nil => simp [zbs]
  | cons a l ih =>
    have h1 := ih (fun x hx => h x (List.mem_cons_of_mem _ hx))
    have h2 := zb_len (h a List.mem_cons_self)
    rw [zbs_cons, List.length_append, List.length_cons]
    omega
theorem bdsB_len (l : List Bd) (h : ∀ x ∈ l, WfB x ∧ x.2.2.length ≤ 1001) : (bdsB l).length ≤ 10040 * l.length := by
  induction l with
  | nil => simp [bdsB]
  | cons a l ih =>
    have h1 := ih (fun x hx => h x (List.mem_cons_of_mem _ hx))
    obtain ⟨⟨a1, a2, a3⟩, a4⟩ := h a List.mem_cons_self
    have b1 := zb_len a1
    have b2 := zb_len a2
    have b3 := zb_len (v := (a.2.2.length : Int)) ⟨by omega, by omega⟩
    have b4 := zbs_len a.2.2 a3
    rw [bdsB_cons, List.length_append, List.length_cons, bdB]
    simp only [List.length_append]
    omega
theorem encB_len {l : List Bd} (h : ∀ x ∈ l, WfB x ∧ x.2.2.length ≤ 1001) (hl : l.length ≤ 10) : (encB l).length ≤ 100500 := by
  have h1 := bdsB_len l h
  have h2 := zb_len (v := (l.length : Int)) ⟨by omega, by omega⟩
  rw [encB, List.length_append]
  omega
theorem brow_wf {T : TypeId} {w : World} {base : Nat} {A : Option Addr} {n c : Nat} {q : List (Bd × Sl)} (hR : BRow T w base A n c q) (hl : ∀ p ∈ q, p.2.2.1 ≤ 1001) : ∀ x ∈ q.map Prod.fst, WfB x ∧ x.2.2.length ≤ 1001 := fun x hx => by
  obtain ⟨p, hp, rfl⟩ := List.mem_map.1 hx
  obtain ⟨h1, h2, h3, _⟩ := hR.2.2 p hp
  exact ⟨⟨wf_i64 h1, wf_i64 h2, fun y hy => wf_i64 (h3.wf y hy)⟩, by rw [h3.len]; exact hl p hp⟩

set_option linter.unusedSimpArgs false in
set_option maxHeartbeats 8000000 in
set_option maxRecDepth 100000 in
theorem bidsEncoding_w (N at_ how by_ cb : Int) (A : Option Addr) (n c : Nat) (l : List Int) (Ar : Option Addr) (nr cr : Nat) (lr : List Int) (w : World) (h : Nums .i64 w A n c l) (hr : Nums .u8 w Ar nr cr lr) (hN1 : -9223372036854775808 ≤ N) (hN2 : N ≤ 9223372036854775807) (ha1 : -9223372036854775808 ≤ at_) (ha2 : at_ ≤ 9223372036854775807) (hh1 : -9223372036854775808 ≤ how) (hh2 : how ≤ 9223372036854775807) (hb1 : -9223372036854775808 ≤ by_) (hb2 : by_ ≤ 9223372036854775807) (hc1 : 0 ≤ cb) (hc2 : cb ≤ 255) :
    Calls Try.prog 9 #[.int .i64 N, .slice A n c, .int .i64 at_, .int .i64 how, .int .i64 by_, .int .u8 cb, .slice Ar nr cr] w (RetK w true) := by
  have hro := aroN_range N (m := 8) (by omega)
  have HL := Lib.hid (lots27_c N w hN1 hN2)
  obtain ⟨K, hK⟩ : ∃ K : Nat, 1 + aroN N 8 = K := ⟨(1 + aroN N 8).toNat, by omega⟩
  rw [hK] at HL
  have hK1 : 1 ≤ K := by omega
  have hK8 : K ≤ 8 := by omega
  clear hK hro
  have HB := Lib.hid (bids27_c K 10 A n c l w h hK1 hK8 (by omega))
  go_enter Try.func9, Try.ntmps9
  go_wp2_with fail
  refine HL.out.mono ?_
  rintro e w' ⟨rfl, rfl⟩
  go_wp2_with fail
  refine HB.out.mono ?_
  rintro e w1 ⟨lb, hlb, hgen, A1, n1, c1, q1, rfl, hR1, hq1, hE1⟩
  have hn1 : n1 ≤ 10 := by rw [← hR1.1, ← List.length_map (f := Prod.fst), hq1]; exact hlb
  have HSP := Lib.hid (spoilt_c A1 n1 c1 q1 at_ how by_ w1 _ hR1 (by omega) ha1 ha2 hh1 hh2 hb1 hb2 (gen_lots7 hR1 hq1 hgen (by omega) (by omega)))
  clear hq1 hgen hlb hR1 HB HL hh1 hh2 hb1 hb2
  go_wp2_with fail
  refine HSP.out.mono ?_
  rintro e w2 ⟨A2, c2, q2, rfl, hR2, hl2, hE2⟩
  have hwfa := brow_wf hR2 hl2
  have hbd2 := hR2.bids
  have hla : (q2.map Prod.fst).length ≤ 10 := by rw [List.length_map, hR2.1]; exact hn1
  have hEw2 := hE1.trans hE2
  generalize q2.map Prod.fst = la at *
  have hlen := encB_len hwfa hla
  have HDE := Lib.hid (decF_enc la (fun x hx => (hwfa x hx).1) (by omega))
  have HWF := Lib.hid hwfa
  clear hR2 hl2 HSP hE1 hE2 hla hwfa
  go_wp2_with fail
  refine (given7_c _ _ _ la _ hbd2 (by omega)).mono ?_
  rintro e w3 ⟨A3, n3, c3, q3, rfl, hR3, hq3, hE3⟩
  have hbd3 := hR3.bids
  rw [hq3] at hbd3
  have hbd23 := hbd2.e hE3
  have hEw3 := hEw2.trans hE3
  clear hR3 hq3 hbd2 hEw2 hE3
  go_wp2_with fail
  refine (encode_c _ _ _ la _ hbd3 (by omega)).mono ?_
  rintro e w4 ⟨A4, n4, c4, rfl, hO4, hE4⟩
  have hbd4 := hbd23.e hE4
  have hEw4 := hEw3.trans hE4
  have hn4 : n4 = (encB la).length := hO4.1.symm
  have hn4' : n4 ≤ 100500 := by omega
  have hn40 : 0 < n4 := by rw [hn4]; exact encB_pos la
  clear hbd3 hbd23 hEw3 hE4 hn4
  go_wp2_with fail
  refine (decode_c _ _ _ (encB la) _ hO4.reads (by omega)).mono ?_
  rw [HDE.out]
  rintro e w5 ⟨A5, n5, c5, q5, rfl, hR5, hq5, hE5⟩
  have hbd5 := hbd4.e hE5
  have hbx5 := hR5.bids
  rw [hq5] at hbx5
  have hO5 := hO4.e hE5
  have hEw5 := hEw4.trans hE5
  clear hbd4 hR5 hq5 hO4 hEw4 hE5
  go_wp2_with fail
  refine (read_c _ _ _ (encB la) _ hO5.reads (by omega)).mono ?_
  rintro e w6 ⟨g, rfl, hRd6, hg6, hE6⟩
  have hn40I : ((n4 : Int) == 0) = false := by simp; omega
  go_wp2_with fail
  refine (taken_c _ _ _ la _ (hbx5.e hE6) (by rw [← hbx5.len]; have := hbd5.len; omega)).mono ?_
  rintro e w7 ⟨A7, n7, c7, q7, rfl, hR7, hq7, hE7⟩
  have hbd7 := hR7.bids
  rw [hq7] at hbd7
  have hE57 := hE6.trans hE7
  clear hR7 hq7
  go_wp2_with fail
  refine (refSame_c _ _ _ _ _ _ la _ hbd7 (hbd5.e hE57)).mono ?_
  rintro e w8 ⟨rfl, hE8⟩
  have hE58 := hE57.trans hE8
  have hRd8 := hRd6.e (hE7.trans hE8)
  clear hbd7 hE57 hE8 hRd6 hE7 hbx5 hE6
  have HI := Lib.hid (show rdIS (encB la) 0 = ((n1 : Int), bdsB la, 0) by
    rw [encB, hbd5.len]; exact rdIS_zb _ _ ⟨by omega, by omega⟩)
  go_wp2_with fail
  refine (rInt_c _ _ _ _ hRd8).mono ?_
  rintro e w9 ⟨rfl, hRd9, hG9⟩
  rw [HI.out] at hRd9 ⊢
  simp only at hRd9 ⊢
  have hE59 : E w5 w9 := hE58.grown hG9 (fun k hk => by injection hk with hk; omega)
  clear hE58 hRd8 hG9 HI
  go_wp2_with fail
  go_loopw [20] (fun ti wr => ∃ i : Nat, i ≤ n1 ∧ ti = .int .i64 i ∧ Rd wr g (bdsB (la.drop i)) 0 ∧ E w5 wr) (fun ti _ => n1 - (intOf ti).toNat)
  case atStart => exact ⟨0, Nat.zero_le _, rfl, hRd9, hE59⟩
  case round =>
    clear hRd9 hE59
    obtain ⟨i, hi, rfl, hRd, hE⟩ := hrel
    by_cases hil : i < n1
    · obtain ⟨b, o, x, A1', p1, k1, rfl, hb, hx, hv1, hv2, hNx, hcs⟩ := hbd5.item hil
      obtain ⟨d1, d2, d3⟩ := hcs wr hE
      have hilI : (i : Int) < (n1 : Int) := by omega
      have hp63 := hNx.n63
      obtain ⟨x1, x2⟩ := wf_i64 hv1
      obtain ⟨y1, y2⟩ := wf_i64 hv2
      have HD := Lib.hid (show bdsB (la.drop i) = zb x.1 ++ (zb x.2.1 ++ (zb (p1 : Int) ++ (zbs x.2.2 ++ bdsB (la.drop (i + 1))))) by
        rw [drop_at hx, bdsB_cons, bdB, hNx.len]; simp only [List.append_assoc])
      have R1 := Lib.hid (rdIS_zb x.1 (zb x.2.1 ++ (zb (p1 : Int) ++ (zbs x.2.2 ++ bdsB (la.drop (i + 1))))) ⟨x1, x2⟩)
      have R2 := Lib.hid (rdIS_zb x.2.1 (zb (p1 : Int) ++ (zbs x.2.2 ++ bdsB (la.drop (i + 1)))) ⟨y1, y2⟩)
      have R3 := Lib.hid (rdIS_zb (p1 : Int) (zbs x.2.2 ++ bdsB (la.drop (i + 1))) ⟨by omega, by omega⟩)
      rw [HD.out] at hRd
      have e1 : (x.1 != x.1) = false := by simp
      have e2 : (x.2.1 != x.2.1) = false := by simp
      have e3 : ((p1 : Int) != (p1 : Int)) = false := by simp
      have hbr : b < wr.heap.size := Nat.lt_of_lt_of_le hb hE.le
      have hRdd := hRd.e ((E.refl wr).drew)
      have hEd := hE.drew
      clear hx HD
      generalize hxa : x.1 = xa at *
      generalize hxb : x.2.1 = xb at *
      clear hxa hxb
      go_upto_region 10 with fail
      go_cut [105] (fun t105 wx => t105 = .bool false ∧ E w5 wx ∧ Rd wx g (zbs x.2.2 ++ bdsB (la.drop (i + 1))) 0)
      case first =>
        refine wp_region_held_drew (S := (fun w' => ∀ o, w'.cell? ⟨b, o, none⟩ = wr.cell? ⟨b, o, none⟩)) (by kernel_rfl) (fun _ => rfl) (fun hHeld => ?_)
        (((refine wpAnyH_take (i := 0) (v := ?_) rfl (by kernel_rfl) (by kernel_rfl) (by kernel_rfl) (fun _ _ _ h => h) (Or.inl ⟨by kernel_rfl, ?_⟩) (by assumption) ?_); rotate_left 1; (focus (intro w hSw; (try dsimp only at hSw); go_simp; (try with_reducible rfl))); (try simp only [Act.put, List.setIfInBounds_toArray, List.set_cons_zero, List.set_cons_succ])); ((refine wpAnyH_take (i := 2) (v := ?_) rfl (by kernel_rfl) (by kernel_rfl) (by kernel_rfl) (fun _ _ _ h => h) (Or.inl ⟨by kernel_rfl, ?_⟩) (by assumption) ?_); rotate_left 1; (focus (intro w hSw; (try dsimp only at hSw); go_simp; (try with_reducible rfl))); (try simp only [Act.put, List.setIfInBounds_toArray, List.set_cons_zero, List.set_cons_succ])); ((refine wpAnyH_take (i := 3) (v := ?_) rfl (by kernel_rfl) (by kernel_rfl) (by kernel_rfl) (fun _ _ _ h => h) (Or.inl ⟨by kernel_rfl, ?_⟩) (by assumption) ?_); rotate_left 1; (focus (intro w hSw; (try dsimp only at hSw); go_simp; (try with_reducible rfl))); (try simp only [Act.put, List.setIfInBounds_toArray, List.set_cons_zero, List.set_cons_succ])); ((refine wpAnyH_take (i := 4) (v := ?_) rfl (by kernel_rfl) (by kernel_rfl) (by kernel_rfl) (fun _ _ _ h => h) (Or.inl ⟨by kernel_rfl, ?_⟩) (by assumption) ?_); rotate_left 1; (focus (intro w hSw; (try dsimp only at hSw); go_simp; (try with_reducible rfl))); (try simp only [Act.put, List.setIfInBounds_toArray, List.set_cons_zero, List.set_cons_succ])); ((refine wpAnyH_take (i := 5) (v := ?_) rfl (by kernel_rfl) (by kernel_rfl) (by kernel_rfl) (fun _ _ _ h => h) (Or.inl ⟨by kernel_rfl, ?_⟩) (by assumption) ?_); rotate_left 1; (focus (intro w hSw; (try dsimp only at hSw); go_simp; (try with_reducible rfl))); (try simp only [Act.put, List.setIfInBounds_toArray, List.set_cons_zero, List.set_cons_succ])); ((refine wpAnyH_take (i := 6) (v := ?_) rfl (by kernel_rfl) (by kernel_rfl) (by kernel_rfl) (fun _ _ _ h => h) (Or.inl ⟨by kernel_rfl, ?_⟩) (by assumption) ?_); rotate_left 1; (focus (intro w hSw; (try dsimp only at hSw); go_simp; (try with_reducible rfl))); (try simp only [Act.put, List.setIfInBounds_toArray, List.set_cons_zero, List.set_cons_succ])))
        (((refine wpAnyH_ready (rs := [1]) (by kernel_rfl) (by simp) ?_); (refine AllReadyH.cons rfl (fun K hK => ?_) AllReadyH.nil); (rw [if_pos (by kernel_rfl)]); go_simp))
        refine (rInt_c _ _ _ _ hRdd).mono ?_
        rintro e wa ⟨rfl, hRa, hGa⟩
        rw [R1.out] at hRa ⊢
        simp only at hRa ⊢
        have hEa : E w5 wa := hEd.grown hGa (fun k hk => by injection hk with hk; omega)
        have hSa : ∀ o, wa.cell? ⟨b, o, none⟩ = wr.cell? ⟨b, o, none⟩ := fun o => (hEa.cell (p := ⟨b, o, none⟩) hb).trans (hE.cell (p := ⟨b, o, none⟩) hb).symm
        (try go_wp2_with fail)
        refine hK.out _ _ hSa (fun hHeld2 => ?_)
        clear hK K hHeld
        (try simp only [Act.put, List.setIfInBounds_toArray, List.set_cons_zero, List.set_cons_succ])
        (((refine wpAnyH_take (i := 7) (v := ?_) rfl (by kernel_rfl) (by kernel_rfl) (by kernel_rfl) (fun _ _ _ h => h) (Or.inl ⟨by kernel_rfl, ?_⟩) (by assumption) ?_); rotate_left 1; (focus (intro w hSw; (try dsimp only at hSw); go_simp; (try with_reducible rfl))); (try simp only [Act.put, List.setIfInBounds_toArray, List.set_cons_zero, List.set_cons_succ])); ((refine wpAnyH_take (i := 8) (v := ?_) rfl (by kernel_rfl) (by kernel_rfl) (by kernel_rfl) (fun _ _ _ h => h) (Or.inl ⟨by kernel_rfl, ?_⟩) (by assumption) ?_); rotate_left 1; (focus (intro w hSw; (try dsimp only at hSw); go_simp; (try with_reducible rfl))); (try simp only [Act.put, List.setIfInBounds_toArray, List.set_cons_zero, List.set_cons_succ])); ((refine wpAnyH_take (i := 9) (v := ?_) rfl (by kernel_rfl) (by kernel_rfl) (by kernel_rfl) (fun _ _ _ h => h) (Or.inl ⟨by kernel_rfl, ?_⟩) (by assumption) ?_); rotate_left 1; (focus (intro w hSw; (try dsimp only at hSw); go_simp; (try with_reducible rfl))); (try simp only [Act.put, List.setIfInBounds_toArray, List.set_cons_zero, List.set_cons_succ])); ((refine wpAnyH_take (i := 11) (v := ?_) rfl (by kernel_rfl) (by kernel_rfl) (by kernel_rfl) (fun _ _ _ h => h) (Or.inl ⟨by kernel_rfl, ?_⟩) (by assumption) ?_); rotate_left 1; (focus (intro w hSw; (try dsimp only at hSw); go_simp; (try with_reducible rfl))); (try simp only [Act.put, List.setIfInBounds_toArray, List.set_cons_zero, List.set_cons_succ])); ((refine wpAnyH_take (i := 12) (v := ?_) rfl (by kernel_rfl) (by kernel_rfl) (by kernel_rfl) (fun _ _ _ h => h) (Or.inl ⟨by kernel_rfl, ?_⟩) (by assumption) ?_); rotate_left 1; (focus (intro w hSw; (try dsimp only at hSw); go_simp; (try with_reducible rfl))); (try simp only [Act.put, List.setIfInBounds_toArray, List.set_cons_zero, List.set_cons_succ])); ((refine wpAnyH_take (i := 13) (v := ?_) rfl (by kernel_rfl) (by kernel_rfl) (by kernel_rfl) (fun _ _ _ h => h) (Or.inl ⟨by kernel_rfl, ?_⟩) (by assumption) ?_); rotate_left 1; (focus (intro w hSw; (try dsimp only at hSw); go_simp; (try with_reducible rfl))); (try simp only [Act.put, List.setIfInBounds_toArray, List.set_cons_zero, List.set_cons_succ])); ((refine wpAnyH_take (i := 14) (v := ?_) rfl (by kernel_rfl) (by kernel_rfl) (by kernel_rfl) (fun _ _ _ h => h) (Or.inl ⟨by kernel_rfl, ?_⟩) (by assumption) ?_); rotate_left 1; (focus (intro w hSw; (try dsimp only at hSw); go_simp; (try with_reducible rfl))); (try simp only [Act.put, List.setIfInBounds_toArray, List.set_cons_zero, List.set_cons_succ])); ((refine wpAnyH_take (i := 15) (v := ?_) rfl (by kernel_rfl) (by kernel_rfl) (by kernel_rfl) (fun _ _ _ h => h) (Or.inl ⟨by kernel_rfl, ?_⟩) (by assumption) ?_); rotate_left 1; (focus (intro w hSw; (try dsimp only at hSw); go_simp; (try with_reducible rfl))); (try simp only [Act.put, List.setIfInBounds_toArray, List.set_cons_zero, List.set_cons_succ])))
        (((refine wpAnyH_ready (rs := [10]) (by kernel_rfl) (by simp) ?_); (refine AllReadyH.cons rfl (fun K hK => ?_) AllReadyH.nil); (rw [if_pos (by kernel_rfl)]); go_simp))
        refine (rInt_c _ _ _ _ hRa).mono ?_
        rintro e wb ⟨rfl, hRb, hGb⟩
        rw [R2.out] at hRb ⊢
        simp only at hRb ⊢
        have hEb : E w5 wb := hEa.grown hGb (fun k hk => by injection hk with hk; omega)
        have hSb : ∀ o, wb.cell? ⟨b, o, none⟩ = wr.cell? ⟨b, o, none⟩ := fun o => (hEb.cell (p := ⟨b, o, none⟩) hb).trans (hE.cell (p := ⟨b, o, none⟩) hb).symm
        (try go_wp2_with fail)
        refine hK.out _ _ hSb (fun hHeldb => ?_)
        clear hK K hHeld2
        (try simp only [Act.put, List.setIfInBounds_toArray, List.set_cons_zero, List.set_cons_succ])
        (((refine wpAnyH_take (i := 16) (v := ?_) rfl (by kernel_rfl) (by kernel_rfl) (by kernel_rfl) (fun _ _ _ h => h) (Or.inl ⟨by kernel_rfl, ?_⟩) (by assumption) ?_); rotate_left 1; (focus (intro w hSw; (try dsimp only at hSw); go_simp; (try with_reducible rfl))); (try simp only [Act.put, List.setIfInBounds_toArray, List.set_cons_zero, List.set_cons_succ])); ((refine wpAnyH_take (i := 17) (v := ?_) rfl (by kernel_rfl) (by kernel_rfl) (by kernel_rfl) (fun _ _ _ h => h) (Or.inl ⟨by kernel_rfl, ?_⟩) (by assumption) ?_); rotate_left 1; (focus (intro w hSw; (try dsimp only at hSw); go_simp; (try with_reducible rfl))); (try simp only [Act.put, List.setIfInBounds_toArray, List.set_cons_zero, List.set_cons_succ])); ((refine wpAnyH_take (i := 18) (v := ?_) rfl (by kernel_rfl) (by kernel_rfl) (by kernel_rfl) (fun _ _ _ h => h) (Or.inl ⟨by kernel_rfl, ?_⟩) (by assumption) ?_); rotate_left 1; (focus (intro w hSw; (try dsimp only at hSw); go_simp; (try with_reducible rfl))); (try simp only [Act.put, List.setIfInBounds_toArray, List.set_cons_zero, List.set_cons_succ])); ((refine wpAnyH_take (i := 19) (v := ?_) rfl (by kernel_rfl) (by kernel_rfl) (by kernel_rfl) (fun _ _ _ h => h) (Or.inl ⟨by kernel_rfl, ?_⟩) (by assumption) ?_); rotate_left 1; (focus (intro w hSw; (try dsimp only at hSw); go_simp; (try with_reducible rfl))); (try simp only [Act.put, List.setIfInBounds_toArray, List.set_cons_zero, List.set_cons_succ])); ((refine wpAnyH_take (i := 21) (v := ?_) rfl (by kernel_rfl) (by kernel_rfl) (by kernel_rfl) (fun _ _ _ h => h) (Or.inl ⟨by kernel_rfl, ?_⟩) (by assumption) ?_); rotate_left 1; (focus (intro w hSw; (try dsimp only at hSw); go_simp; (try with_reducible rfl))); (try simp only [Act.put, List.setIfInBounds_toArray, List.set_cons_zero, List.set_cons_succ])); ((refine wpAnyH_take (i := 22) (v := ?_) rfl (by kernel_rfl) (by kernel_rfl) (by kernel_rfl) (fun _ _ _ h => h) (Or.inl ⟨by kernel_rfl, ?_⟩) (by assumption) ?_); rotate_left 1; (focus (intro w hSw; (try dsimp only at hSw); go_simp; (try with_reducible rfl))); (try simp only [Act.put, List.setIfInBounds_toArray, List.set_cons_zero, List.set_cons_succ])); ((refine wpAnyH_take (i := 23) (v := ?_) rfl (by kernel_rfl) (by kernel_rfl) (by kernel_rfl) (fun _ _ _ h => h) (Or.inl ⟨by kernel_rfl, ?_⟩) (by assumption) ?_); rotate_left 1; (focus (intro w hSw; (try dsimp only at hSw); go_simp; (try with_reducible rfl))); (try simp only [Act.put, List.setIfInBounds_toArray, List.set_cons_zero, List.set_cons_succ])); ((refine wpAnyH_take (i := 24) (v := ?_) rfl (by kernel_rfl) (by kernel_rfl) (by kernel_rfl) (fun _ _ _ h => h) (Or.inl ⟨by kernel_rfl, ?_⟩) (by assumption) ?_); rotate_left 1; (focus (intro w hSw; (try dsimp only at hSw); go_simp; (try with_reducible rfl))); (try simp only [Act.put, List.setIfInBounds_toArray, List.set_cons_zero, List.set_cons_succ])); ((refine wpAnyH_take (i := 25) (v := ?_) rfl (by kernel_rfl) (by kernel_rfl) (by kernel_rfl) (fun _ _ _ h => h) (Or.inl ⟨by kernel_rfl, ?_⟩) (by assumption) ?_); rotate_left 1; (focus (intro w hSw; (try dsimp only at hSw); go_simp; (try with_reducible rfl))); (try simp only [Act.put, List.setIfInBounds_toArray, List.set_cons_zero, List.set_cons_succ])); ((refine wpAnyH_take (i := 26) (v := ?_) rfl (by kernel_rfl) (by kernel_rfl) (by kernel_rfl) (fun _ _ _ h => h) (Or.inl ⟨by kernel_rfl, ?_⟩) (by assumption) ?_); rotate_left 1; (focus (intro w hSw; (try dsimp only at hSw); go_simp; (try with_reducible rfl))); (try simp only [Act.put, List.setIfInBounds_toArray, List.set_cons_zero, List.set_cons_succ])))
        (((refine wpAnyH_ready (rs := [20]) (by kernel_rfl) (by simp) ?_); (refine AllReadyH.cons rfl (fun K hK => ?_) AllReadyH.nil); (rw [if_pos (by kernel_rfl)]); go_simp))
        refine (rInt_c _ _ _ _ hRb).mono ?_
        rintro e wc ⟨rfl, hRc, hGc⟩
        rw [R3.out] at hRc ⊢
        simp only at hRc ⊢
        have hEc : E w5 wc := hEb.grown hGc (fun k hk => by injection hk with hk; omega)
        have hSc : ∀ o, wc.cell? ⟨b, o, none⟩ = wr.cell? ⟨b, o, none⟩ := fun o => (hEc.cell (p := ⟨b, o, none⟩) hb).trans (hE.cell (p := ⟨b, o, none⟩) hb).symm
        (try go_wp2_with fail)
        refine hK.out _ _ hSc (fun hHeldc => ?_)
        clear hK K hHeldb
        (try simp only [Act.put, List.setIfInBounds_toArray, List.set_cons_zero, List.set_cons_succ])
        (((refine wpAnyH_take (i := 27) (v := ?_) rfl (by kernel_rfl) (by kernel_rfl) (by kernel_rfl) (fun _ _ _ h => h) (Or.inl ⟨by kernel_rfl, ?_⟩) (by assumption) ?_); rotate_left 1; (focus (intro w hSw; (try dsimp only at hSw); go_simp; (try with_reducible rfl))); (try simp only [Act.put, List.setIfInBounds_toArray, List.set_cons_zero, List.set_cons_succ])); ((refine wpAnyH_take (i := 28) (v := ?_) rfl (by kernel_rfl) (by kernel_rfl) (by kernel_rfl) (fun _ _ _ h => h) (Or.inl ⟨by kernel_rfl, ?_⟩) (by assumption) ?_); rotate_left 1; (focus (intro w hSw; (try dsimp only at hSw); go_simp; (try with_reducible rfl))); (try simp only [Act.put, List.setIfInBounds_toArray, List.set_cons_zero, List.set_cons_succ])))
        refine wpAnyH_done (by kernel_rfl) ?_ _
        go_simp
        go_wp2_with fail
        go_meet
        exact ⟨rfl, hEc, hRc⟩
      case rest =>
        obtain ⟨rfl, hEx, hRx⟩ := hcut
        generalize wc = w10 at *
        obtain ⟨z1, z2, z3⟩ := hcs w10 hEx
        clear d1 d2 d3 hRd hE hRdd hEd R1 R2 R3 hbr e1 e2 e3
        go_wp2_with fail
        go_loopw [21] (fun ti wr => ∃ j : Nat, j ≤ p1 ∧ ti = .int .i64 j ∧ Rd wr g (zbs (x.2.2.drop j) ++ bdsB (la.drop (i + 1))) 0 ∧ E w5 wr) (fun ti _ => p1 - (intOf ti).toNat)
        case atStart => exact ⟨0, Nat.zero_le _, rfl, hRx, hEx⟩
        case round =>
          clear hRx hEx z1 z2 z3
          obtain ⟨j, hj, rfl, hRd, hE⟩ := hrel
          obtain ⟨z1, z2, z3⟩ := hcs wr hE
          by_cases hjp : j < p1
          · have hjI : (j : Int) < (p1 : Int) := by omega
            obtain ⟨bl, ol, y, rfl, hbl, hy, hwy, hcy⟩ := hNx.get hjp
            have hcy' := (hE.cell (p := ⟨bl, ol + j, none⟩) hbl).trans hcy
            obtain ⟨y1, y2⟩ := wf_i64 hwy
            have R1 := Lib.hid (rdIS_zb y (zbs (x.2.2.drop (j + 1)) ++ bdsB (la.drop (i + 1))) ⟨y1, y2⟩)
            have HD := Lib.hid (show zbs (x.2.2.drop j) ++ bdsB (la.drop (i + 1)) = zb y ++ (zbs (x.2.2.drop (j + 1)) ++ bdsB (la.drop (i + 1))) by
              rw [drop_at hy, zbs_cons, List.append_assoc])
            rw [HD.out] at hRd
            have e1 : (y != y) = false := by simp
            have hRda := hRd.e ((E.refl wr).drew)
            have hEa := hE.drew
            clear hy HD hcy
            go_upto_region 15 with fail
            go_cut [126] (fun t126 wx => t126 = .bool false ∧ E w5 wx ∧ Rd wx g (zbs (x.2.2.drop (j + 1)) ++ bdsB (la.drop (i + 1))) 0)
            case first =>
              refine wp_region_held_drew (S := (fun w' => (∀ o, w'.cell? ⟨b, o, none⟩ = wr.cell? ⟨b, o, none⟩) ∧ ∀ o, w'.cell? ⟨bl, o, none⟩ = wr.cell? ⟨bl, o, none⟩)) (by kernel_rfl) ⟨fun _ => rfl, fun _ => rfl⟩ (fun hHeld => ?_)
              (((refine wpAnyH_take (i := 0) (v := ?_) rfl (by kernel_rfl) (by kernel_rfl) (by kernel_rfl) (fun _ _ _ h => h) (Or.inl ⟨by kernel_rfl, ?_⟩) (by assumption) ?_); rotate_left 1; (focus (intro w hSw; (try dsimp only at hSw); go_simp; (try with_reducible rfl))); (try simp only [Act.put, List.setIfInBounds_toArray, List.set_cons_zero, List.set_cons_succ])); ((refine wpAnyH_take (i := 2) (v := ?_) rfl (by kernel_rfl) (by kernel_rfl) (by kernel_rfl) (fun _ _ _ h => h) (Or.inl ⟨by kernel_rfl, ?_⟩) (by assumption) ?_); rotate_left 1; (focus (intro w hSw; (try dsimp only at hSw); go_simp; (try with_reducible rfl))); (try simp only [Act.put, List.setIfInBounds_toArray, List.set_cons_zero, List.set_cons_succ])); ((refine wpAnyH_take (i := 3) (v := ?_) rfl (by kernel_rfl) (by kernel_rfl) (by kernel_rfl) (fun _ _ _ h => h) (Or.inl ⟨by kernel_rfl, ?_⟩) (by assumption) ?_); rotate_left 1; (focus (intro w hSw; (try dsimp only at hSw); go_simp; (try with_reducible rfl))); (try simp only [Act.put, List.setIfInBounds_toArray, List.set_cons_zero, List.set_cons_succ])); ((refine wpAnyH_take (i := 4) (v := ?_) rfl (by kernel_rfl) (by kernel_rfl) (by kernel_rfl) (fun _ _ _ h => h) (Or.inl ⟨by kernel_rfl, ?_⟩) (by assumption) ?_); rotate_left 1; (focus (intro w hSw; (try dsimp only at hSw); go_simp; (try with_reducible rfl))); (try simp only [Act.put, List.setIfInBounds_toArray, List.set_cons_zero, List.set_cons_succ])); ((refine wpAnyH_take (i := 5) (v := ?_) rfl (by kernel_rfl) (by kernel_rfl) (by kernel_rfl) (fun _ _ _ h => h) (Or.inl ⟨by kernel_rfl, ?_⟩) (by assumption) ?_); rotate_left 1; (focus (intro w hSw; (try dsimp only at hSw); go_simp; (try with_reducible rfl))); (try simp only [Act.put, List.setIfInBounds_toArray, List.set_cons_zero, List.set_cons_succ])); ((refine wpAnyH_take (i := 6) (v := ?_) rfl (by kernel_rfl) (by kernel_rfl) (by kernel_rfl) (fun _ _ _ h => h) (Or.inl ⟨by kernel_rfl, ?_⟩) (by assumption) ?_); rotate_left 1; (focus (intro w hSw; (try dsimp only at hSw); go_simp; (try with_reducible rfl))); (try simp only [Act.put, List.setIfInBounds_toArray, List.set_cons_zero, List.set_cons_succ])); ((refine wpAnyH_take (i := 7) (v := ?_) rfl (by kernel_rfl) (by kernel_rfl) (by kernel_rfl) (fun _ _ _ h => h) (Or.inl ⟨by kernel_rfl, ?_⟩) (by assumption) ?_); rotate_left 1; (focus (intro w hSw; (try dsimp only at hSw); go_simp; (try with_reducible rfl))); (try simp only [Act.put, List.setIfInBounds_toArray, List.set_cons_zero, List.set_cons_succ])); ((refine wpAnyH_take (i := 8) (v := ?_) rfl (by kernel_rfl) (by kernel_rfl) (by kernel_rfl) (fun _ _ _ h => h) (Or.inl ⟨by kernel_rfl, ?_⟩) (by assumption) ?_); rotate_left 1; (focus (intro w hSw; (try dsimp only at hSw); go_simp; (try with_reducible rfl))); (try simp only [Act.put, List.setIfInBounds_toArray, List.set_cons_zero, List.set_cons_succ])); ((refine wpAnyH_take (i := 9) (v := ?_) rfl (by kernel_rfl) (by kernel_rfl) (by kernel_rfl) (fun _ _ _ h => h) (Or.inl ⟨by kernel_rfl, ?_⟩) (by assumption) ?_); rotate_left 1; (focus (intro w hSw; (try dsimp only at hSw); go_simp; (try with_reducible rfl))); (try simp only [Act.put, List.setIfInBounds_toArray, List.set_cons_zero, List.set_cons_succ])))
              (((refine wpAnyH_ready (rs := [1]) (by kernel_rfl) (by simp) ?_); (refine AllReadyH.cons rfl (fun K hK => ?_) AllReadyH.nil); (rw [if_pos (by kernel_rfl)]); go_simp))
              refine (rInt_c _ _ _ _ hRda).mono ?_
              rintro e wb ⟨rfl, hRb, hGb⟩
              rw [R1.out] at hRb ⊢
              simp only at hRb ⊢
              have hEb : E w5 wb := hEa.grown hGb (fun k hk => by injection hk with hk; omega)
              have hSb : (∀ o, wb.cell? ⟨b, o, none⟩ = wr.cell? ⟨b, o, none⟩) ∧ ∀ o, wb.cell? ⟨bl, o, none⟩ = wr.cell? ⟨bl, o, none⟩ := ⟨fun o => (hEb.cell (p := ⟨b, o, none⟩) hb).trans (hE.cell (p := ⟨b, o, none⟩) hb).symm, fun o => (hEb.cell (p := ⟨bl, o, none⟩) hbl).trans (hE.cell (p := ⟨bl, o, none⟩) hbl).symm⟩
              (try go_wp2_with fail)
              refine hK.out _ _ hSb (fun hHeld2 => ?_)
              clear hK K hHeld
              (try simp only [Act.put, List.setIfInBounds_toArray, List.set_cons_zero, List.set_cons_succ])
              (((refine wpAnyH_take (i := 10) (v := ?_) rfl (by kernel_rfl) (by kernel_rfl) (by kernel_rfl) (fun _ _ _ h => h) (Or.inl ⟨by kernel_rfl, ?_⟩) (by assumption) ?_); rotate_left 1; (focus (intro w hSw; (try dsimp only at hSw); go_simp; (try with_reducible rfl))); (try simp only [Act.put, List.setIfInBounds_toArray, List.set_cons_zero, List.set_cons_succ])))
              refine wpAnyH_done (by kernel_rfl) ?_ _
              go_simp
              go_wp2_with fail
              go_meet
              exact ⟨rfl, hEb, hRb⟩
            case rest =>
              obtain ⟨rfl, hEx, hRx⟩ := hcut
              generalize wc = w11 at *
              clear z1 z2 z3 hRd hE hRda hEa R1 hcy'
              go_wp2_with fail
              go_roundw
              case rel => exact ⟨j + 1, by omega, by go_num, hRx, hEx⟩
              case measure => simp [intOf]; omega
          · have hjI : ¬ (j : Int) < (p1 : Int) := by omega
            have hRf : Rd wr g (bdsB (la.drop (i + 1))) 0 := by
              rw [List.drop_eq_nil_of_le (by rw [hNx.len]; omega)] at hRd
              exact hRd
            go_wp2_with fail
            go_roundw
            case rel => exact ⟨i + 1, by omega, by go_num, hRf, hE⟩
            case measure => simp [intOf]; omega
    · have hilI : ¬ (i : Int) < (n1 : Int) := by omega
      have hRf : Rd wr g [] 0 := by
        rw [List.drop_eq_nil_of_le (by rw [hbd5.len]; omega)] at hRd
        exact hRd
      go_wp2_with fail
      refine (rEnd_c _ _ _ _ hRf).mono ?_
      rintro e w' ⟨rfl, rfl⟩
      rw [show endS [] 0 = 0 by simp [endS]]
      clear hRf hRd
      have hra := aroN_range at_ (m := (n4 : Int)) (by omega)
      have HAr := Lib.hid (fun W => around1_c at_ (n4 : Int) W ha1 ha2 (by omega) (by omega))
      obtain ⟨k, hk⟩ : ∃ k : Nat, aroN at_ (n4 : Int) = k := ⟨(aroN at_ (n4 : Int)).toNat, by omega⟩
      rw [hk] at HAr hra
      have hkn : k < n4 := by omega
      have hknI : (k : Int) < (n4 : Int) := by omega
      clear hk hra ha1 ha2
      have hOr := hO5.e hE
      have hcap4 := hO5.reads.cap
      have hc463 := hO5.reads.c63
      have hk4I : (k : Int) ≤ (c4 : Int) := by omega
      have hNr := (hr.e hEw5).e hE
      have hEwr := hEw5.trans hE
      obtain ⟨w10, hw10⟩ : ∃ w10, w10 = wr := ⟨_, rfl⟩
      subst hw10
      clear hE hO5 hbd5 hEw5 h hr HDE HWF hilI hil
      go_wp2_with fail
      refine (HAr.out _).mono ?_
      rintro e w' ⟨rfl, rfl⟩
      have hN4 := hOr.reads.e ((E.refl w10).alloc (.cells #[] 5))
      go_upto_region 21 with (at_builtin; refine wpList_appN byteT _ rfl _ _ rfl w10.heap.size _ _ _ [] rfl (Own.empty w10 _ _) _ _ _ (encB la) rfl hN4 (by omega) (by simp) ?_; intro Ag cg wg hOg hGg hBg)
      rw [Nat.zero_add, List.nil_append] at hOg
      have hEg : E w10 wg := ((E.refl w10).alloc _).up hBg
      obtain ⟨gc, xg, rfl, hgc, hltc, hxg, hwg, hcg, hfg⟩ := hOg.get (i := k) hkn
      have hOc := hOg.set k cb (WalkArith.wf_u8 (by omega))
      obtain ⟨w12, hw12⟩ : ∃ w12, wg.setCell ⟨gc, k, none⟩ (.int .u8 cb) = w12 := ⟨_, rfl⟩
      rw [hw12] at hOc
      have hE12 : E w10 w12 := by rw [← hw12]; exact hEg.setCell (p := ⟨gc, k, none⟩) hgc _
      have HW12 := Lib.hid hw12
      clear hw12 hxg hN4 hGg hBg
      go_upto_region 22 with fail
      rw [HW12.out]
      clear HW12 hcg hfg hOg hEg hltc
      have hOr12 := hOr.e hE12
      have hNr12 := hNr.e hE12
      have hEw12 := hEwr.trans hE12
      clear hOr hNr hEwr
      have HFew := Lib.hid (fun W (hW : E w12 W) => few_c Ar nr cr lr W (hNr12.e hW))
      go_cut [24] (fun t24 wx => ∃ (B n6 c6 : Nat) (A6 : Option Addr), t24 = .slice (some ⟨B, 0, none⟩) 3 3 ∧ wx.heap[B]? = some (.cells #[.slice (some ⟨gc, 0, none⟩) n4 cg, .slice A4 k c4, .slice A6 n6 c6] 58 (0, 0)) ∧ E w12 wx ∧ Nums .u8 wx A6 n6 c6 (lr.take 40))
      case first =>
        refine wp_region_held_drew (S := (fun _ => True)) (by kernel_rfl) trivial (fun hHeld => ?_)
        (((refine wpAnyH_take (i := 0) (v := ?_) rfl (by kernel_rfl) (by kernel_rfl) (by kernel_rfl) (fun _ _ _ h => h) (Or.inl ⟨by kernel_rfl, ?_⟩) (by assumption) ?_); rotate_left 1; (focus (intro w hSw; (try dsimp only at hSw); go_simp; (try with_reducible rfl))); (try simp only [Act.put, List.setIfInBounds_toArray, List.set_cons_zero, List.set_cons_succ])); ((refine wpAnyH_take (i := 1) (v := ?_) rfl (by kernel_rfl) (by kernel_rfl) (by kernel_rfl) (fun _ _ _ h => h) (Or.inl ⟨by kernel_rfl, ?_⟩) (by assumption) ?_); rotate_left 1; (focus (intro w hSw; (try dsimp only at hSw); go_simp; (try with_reducible rfl))); (try simp only [Act.put, List.setIfInBounds_toArray, List.set_cons_zero, List.set_cons_succ])); ((refine wpAnyH_take (i := 2) (v := ?_) rfl (by kernel_rfl) (by kernel_rfl) (by kernel_rfl) (fun _ _ _ h => h) (Or.inl ⟨by kernel_rfl, ?_⟩) (by assumption) ?_); rotate_left 1; (focus (intro w hSw; (try dsimp only at hSw); go_simp; (try with_reducible rfl))); (try simp only [Act.put, List.setIfInBounds_toArray, List.set_cons_zero, List.set_cons_succ])); ((refine wpAnyH_take (i := 3) (v := ?_) rfl (by kernel_rfl) (by kernel_rfl) (by kernel_rfl) (fun _ _ _ h => h) (Or.inl ⟨by kernel_rfl, ?_⟩) (by assumption) ?_); rotate_left 1; (focus (intro w hSw; (try dsimp only at hSw); go_simp; (try with_reducible rfl))); (try simp only [Act.put, List.setIfInBounds_toArray, List.set_cons_zero, List.set_cons_succ])); ((refine wpAnyH_take (i := 4) (v := ?_) rfl (by kernel_rfl) (by kernel_rfl) (by kernel_rfl) (fun _ _ _ h => h) (Or.inl ⟨by kernel_rfl, ?_⟩) (by assumption) ?_); rotate_left 1; (focus (intro w hSw; (try dsimp only at hSw); go_simp; (try with_reducible rfl))); (try simp only [Act.put, List.setIfInBounds_toArray, List.set_cons_zero, List.set_cons_succ])))
        (((refine wpAnyH_ready (rs := [5]) (by kernel_rfl) (by simp) ?_); (refine AllReadyH.cons rfl (fun K hK => ?_) AllReadyH.nil); (rw [if_pos (by kernel_rfl)]); go_simp))
        refine (HFew.out _ ((E.refl w12).drew)).mono ?_
        rintro e wf ⟨A6, n6, c6, rfl, hO6, hE6⟩
        (try go_wp2_with fail)
        refine hK.out _ _ trivial (fun hHeld2 => ?_)
        clear hK K hHeld
        (try simp only [Act.put, List.setIfInBounds_toArray, List.set_cons_zero, List.set_cons_succ])
        (((refine wpAnyH_ready (rs := [6]) (by kernel_rfl) (by simp) ?_); (refine AllReadyH.cons rfl (fun K hK => ?_) AllReadyH.nil); (rw [if_pos (by kernel_rfl)]); go_simp))
        refine hK.out _ _ trivial (fun hHeld3 => ?_)
        clear hK K hHeld2
        (try simp only [Act.put, List.setIfInBounds_toArray, List.set_cons_zero, List.set_cons_succ])
        (((refine wpAnyH_take (i := 7) (v := ?_) rfl (by kernel_rfl) (by kernel_rfl) (by kernel_rfl) (fun _ _ _ h => h) (Or.inl ⟨by kernel_rfl, ?_⟩) (by assumption) ?_); rotate_left 1; (focus (intro w hSw; (try dsimp only at hSw); go_simp; (try with_reducible rfl))); (try simp only [Act.put, List.setIfInBounds_toArray, List.set_cons_zero, List.set_cons_succ])))
        refine wpAnyH_done (by kernel_rfl) ?_ _
        go_simp
        go_wp2_with fail
        go_meet
        exact ⟨wf.heap.size, n6, c6, A6, rfl, heap_alloc_new _ _, (((E.refl w12).drew).trans hE6).alloc _, hO6.reads.e ((E.refl wf).alloc _)⟩
      case rest =>
        obtain ⟨B, n6, c6, A6, rfl, hblk, hE13, hN6⟩ := hcut
        generalize wc = w13 at *
        have hNc := hOc.reads.e hE13
        have hNt := (hOr12.reads.takeB k (by omega)).e hE13
        have hEw13 := hEw12.trans hE13
        have hB13 := lt_blk hblk
        have H3 := Lib.hid (show ∀ i : Nat, i < 3 → ∃ (Ai : Option Addr) (ni ci : Nat) (Li : List Int), w13.cell? ⟨B, i, none⟩ = some (.slice Ai ni ci) ∧ Nums .u8 w13 Ai ni ci Li ∧ ni ≤ 100500 by
          intro i hi
          have hc := fun j => cell_of_row w13 B j _ _ _ hblk
          rcases i with _ | _ | _ | i
          · exact ⟨_, _, _, _, hc 0, hNc, hn4'⟩
          · exact ⟨_, _, _, _, hc 1, hNt, by omega⟩
          · exact ⟨_, _, _, _, hc 2, hN6, by rw [← hN6.len, List.length_take]; omega⟩
          · omega)
        clear hNc hNt hN6 hblk hOc hOr12 HFew hNr12 hEw12 hE13 hE12
        go_wp2_with fail
        go_loopw [25] (fun ti wr => ∃ i : Nat, i ≤ 3 ∧ ti = .int .i64 i ∧ E w13 wr) (fun ti _ => 3 - (intOf ti).toNat)
        case atStart => exact ⟨0, by omega, rfl, E.refl _⟩
        case round =>
          obtain ⟨i, hi, rfl, hE⟩ := hrel
          by_cases hi3 : i < 3
          · have hi3I : (i : Int) < 3 := by omega
            obtain ⟨Ai, ni, ci, Li, hci0, hNi0, hni⟩ := H3.out i hi3
            have hci := (hE.cell (p := ⟨B, i, none⟩) hB13).trans hci0
            have hNi := hNi0.e hE
            have hby : Byts Li := fun x hx => wf_u8 (hNi0.wf x hx)
            have hBr : B < wr.heap.size := Nat.lt_of_lt_of_le hB13 hE.le
            obtain ⟨w14, hw14⟩ : ∃ w14, w14 = wr := ⟨_, rfl⟩
            subst hw14
            clear hci0 hNi0
            go_wp2_with fail
            refine (decode_c _ _ _ Li _ hNi (by omega)).mono ?_
            rintro e w15 ⟨A7, n7, c7, q7, rfl, hR7, hq7, hE7⟩
            have hbd7 := hR7.bids
            rw [hq7] at hbd7
            have hc7 := (hE7.cell (p := ⟨B, i, none⟩) hBr).trans hci
            have hN7 := hNi.e hE7
            have hE15 := hE.trans hE7
            have hB15 : B < w15.heap.size := Nat.lt_of_lt_of_le hBr hE7.le
            have hlenL := hNi.len
            clear hR7 hq7 hci hNi hE hE7 hBr
            generalize hdec : decF Li = D at *
            obtain ⟨y, f⟩ := D
            simp only at hbd7 ⊢
            by_cases hf : f = 0
            · subst hf
              have HBk := Lib.hid (decF_back hby hdec)
              have HEn := Lib.hid (fun W (hW : E w15 W) => encode_c A7 n7 c7 y W (hbd7.e hW) (by rw [← HBk.out]; omega))
              rw [← HBk.out] at HEn
              clear hdec hby hlenL HBk
              go_upto_region 27 with fail
              go_cut [184] (fun t184 wx => t184 = .bool false ∧ E w13 wx)
              case first =>
                refine wp_region_held_drew (S := (fun w' => ∀ o, w'.cell? ⟨B, o, none⟩ = w15.cell? ⟨B, o, none⟩)) (by kernel_rfl) (fun _ => rfl) (fun hHeld => ?_)
                (((refine wpAnyH_take (i := 0) (v := ?_) rfl (by kernel_rfl) (by kernel_rfl) (by kernel_rfl) (fun _ _ _ h => h) (Or.inl ⟨by kernel_rfl, ?_⟩) (by assumption) ?_); rotate_left 1; (focus (intro w hSw; (try dsimp only at hSw); go_simp; (try with_reducible rfl))); (try simp only [Act.put, List.setIfInBounds_toArray, List.set_cons_zero, List.set_cons_succ])); ((refine wpAnyH_take (i := 1) (v := ?_) rfl (by kernel_rfl) (by kernel_rfl) (by kernel_rfl) (fun _ _ _ h => h) (Or.inl ⟨by kernel_rfl, ?_⟩) (by assumption) ?_); rotate_left 1; (focus (intro w hSw; (try dsimp only at hSw); go_simp; (try with_reducible rfl))); (try simp only [Act.put, List.setIfInBounds_toArray, List.set_cons_zero, List.set_cons_succ])); ((refine wpAnyH_take (i := 2) (v := ?_) rfl (by kernel_rfl) (by kernel_rfl) (by kernel_rfl) (fun _ _ _ h => h) (Or.inl ⟨by kernel_rfl, ?_⟩) (by assumption) ?_); rotate_left 1; (focus (intro w hSw; (try dsimp only at hSw); go_simp; (try with_reducible rfl))); (try simp only [Act.put, List.setIfInBounds_toArray, List.set_cons_zero, List.set_cons_succ])))
                (((refine wpAnyH_take (i := 3) (v := undef) rfl (by kernel_rfl) (by kernel_rfl) (by kernel_rfl) (fun _ _ _ h => h) (Or.inr ⟨by kernel_rfl, rfl⟩) (by assumption) ?_); (try simp only [Act.put, List.setIfInBounds_toArray, List.set_cons_zero, List.set_cons_succ])); ((refine wpAnyH_take (i := 4) (v := undef) rfl (by kernel_rfl) (by kernel_rfl) (by kernel_rfl) (fun _ _ _ h => h) (Or.inr ⟨by kernel_rfl, rfl⟩) (by assumption) ?_); (try simp only [Act.put, List.setIfInBounds_toArray, List.set_cons_zero, List.set_cons_succ])); ((refine wpAnyH_take (i := 5) (v := undef) rfl (by kernel_rfl) (by kernel_rfl) (by kernel_rfl) (fun _ _ _ h => h) (Or.inr ⟨by kernel_rfl, rfl⟩) (by assumption) ?_); (try simp only [Act.put, List.setIfInBounds_toArray, List.set_cons_zero, List.set_cons_succ])); ((refine wpAnyH_take (i := 6) (v := undef) rfl (by kernel_rfl) (by kernel_rfl) (by kernel_rfl) (fun _ _ _ h => h) (Or.inr ⟨by kernel_rfl, rfl⟩) (by assumption) ?_); (try simp only [Act.put, List.setIfInBounds_toArray, List.set_cons_zero, List.set_cons_succ])); ((refine wpAnyH_take (i := 7) (v := undef) rfl (by kernel_rfl) (by kernel_rfl) (by kernel_rfl) (fun _ _ _ h => h) (Or.inr ⟨by kernel_rfl, rfl⟩) (by assumption) ?_); (try simp only [Act.put, List.setIfInBounds_toArray, List.set_cons_zero, List.set_cons_succ])); ((refine wpAnyH_take (i := 8) (v := undef) rfl (by kernel_rfl) (by kernel_rfl) (by kernel_rfl) (fun _ _ _ h => h) (Or.inr ⟨by kernel_rfl, rfl⟩) (by assumption) ?_); (try simp only [Act.put, List.setIfInBounds_toArray, List.set_cons_zero, List.set_cons_succ])); ((refine wpAnyH_take (i := 9) (v := undef) rfl (by kernel_rfl) (by kernel_rfl) (by kernel_rfl) (fun _ _ _ h => h) (Or.inr ⟨by kernel_rfl, rfl⟩) (by assumption) ?_); (try simp only [Act.put, List.setIfInBounds_toArray, List.set_cons_zero, List.set_cons_succ])))
                (((refine wpAnyH_take (i := 10) (v := ?_) rfl (by kernel_rfl) (by kernel_rfl) (by kernel_rfl) (fun _ _ _ h => h) (Or.inl ⟨by kernel_rfl, ?_⟩) (by assumption) ?_); rotate_left 1; (focus (intro w hSw; (try dsimp only at hSw); go_simp; (try with_reducible rfl))); (try simp only [Act.put, List.setIfInBounds_toArray, List.set_cons_zero, List.set_cons_succ])); ((refine wpAnyH_take (i := 11) (v := ?_) rfl (by kernel_rfl) (by kernel_rfl) (by kernel_rfl) (fun _ _ _ h => h) (Or.inl ⟨by kernel_rfl, ?_⟩) (by assumption) ?_); rotate_left 1; (focus (intro w hSw; (try dsimp only at hSw); go_simp; (try with_reducible rfl))); (try simp only [Act.put, List.setIfInBounds_toArray, List.set_cons_zero, List.set_cons_succ])); ((refine wpAnyH_take (i := 12) (v := ?_) rfl (by kernel_rfl) (by kernel_rfl) (by kernel_rfl) (fun _ _ _ h => h) (Or.inl ⟨by kernel_rfl, ?_⟩) (by assumption) ?_); rotate_left 1; (focus (intro w hSw; (try dsimp only at hSw); go_simp; (try with_reducible rfl))); (try simp only [Act.put, List.setIfInBounds_toArray, List.set_cons_zero, List.set_cons_succ])); ((refine wpAnyH_take (i := 13) (v := ?_) rfl (by kernel_rfl) (by kernel_rfl) (by kernel_rfl) (fun _ _ _ h => h) (Or.inl ⟨by kernel_rfl, ?_⟩) (by assumption) ?_); rotate_left 1; (focus (intro w hSw; (try dsimp only at hSw); go_simp; (try with_reducible rfl))); (try simp only [Act.put, List.setIfInBounds_toArray, List.set_cons_zero, List.set_cons_succ])); ((refine wpAnyH_take (i := 14) (v := ?_) rfl (by kernel_rfl) (by kernel_rfl) (by kernel_rfl) (fun _ _ _ h => h) (Or.inl ⟨by kernel_rfl, ?_⟩) (by assumption) ?_); rotate_left 1; (focus (intro w hSw; (try dsimp only at hSw); go_simp; (try with_reducible rfl))); (try simp only [Act.put, List.setIfInBounds_toArray, List.set_cons_zero, List.set_cons_succ])); ((refine wpAnyH_take (i := 15) (v := ?_) rfl (by kernel_rfl) (by kernel_rfl) (by kernel_rfl) (fun _ _ _ h => h) (Or.inl ⟨by kernel_rfl, ?_⟩) (by assumption) ?_); rotate_left 1; (focus (intro w hSw; (try dsimp only at hSw); go_simp; (try with_reducible rfl))); (try simp only [Act.put, List.setIfInBounds_toArray, List.set_cons_zero, List.set_cons_succ])); ((refine wpAnyH_take (i := 17) (v := ?_) rfl (by kernel_rfl) (by kernel_rfl) (by kernel_rfl) (fun _ _ _ h => h) (Or.inl ⟨by kernel_rfl, ?_⟩) (by assumption) ?_); rotate_left 1; (focus (intro w hSw; (try dsimp only at hSw); go_simp; (try with_reducible rfl))); (try simp only [Act.put, List.setIfInBounds_toArray, List.set_cons_zero, List.set_cons_succ])); ((refine wpAnyH_take (i := 18) (v := ?_) rfl (by kernel_rfl) (by kernel_rfl) (by kernel_rfl) (fun _ _ _ h => h) (Or.inl ⟨by kernel_rfl, ?_⟩) (by assumption) ?_); rotate_left 1; (focus (intro w hSw; (try dsimp only at hSw); go_simp; (try with_reducible rfl))); (try simp only [Act.put, List.setIfInBounds_toArray, List.set_cons_zero, List.set_cons_succ])); ((refine wpAnyH_take (i := 19) (v := ?_) rfl (by kernel_rfl) (by kernel_rfl) (by kernel_rfl) (fun _ _ _ h => h) (Or.inl ⟨by kernel_rfl, ?_⟩) (by assumption) ?_); rotate_left 1; (focus (intro w hSw; (try dsimp only at hSw); go_simp; (try with_reducible rfl))); (try simp only [Act.put, List.setIfInBounds_toArray, List.set_cons_zero, List.set_cons_succ])); ((refine wpAnyH_take (i := 20) (v := ?_) rfl (by kernel_rfl) (by kernel_rfl) (by kernel_rfl) (fun _ _ _ h => h) (Or.inl ⟨by kernel_rfl, ?_⟩) (by assumption) ?_); rotate_left 1; (focus (intro w hSw; (try dsimp only at hSw); go_simp; (try with_reducible rfl))); (try simp only [Act.put, List.setIfInBounds_toArray, List.set_cons_zero, List.set_cons_succ])))
                (((refine wpAnyH_ready (rs := [16]) (by kernel_rfl) (by simp) ?_); (refine AllReadyH.cons rfl (fun K hK => ?_) AllReadyH.nil); (rw [if_pos (by kernel_rfl)]); go_simp))
                refine (HEn.out _ ((E.refl w15).drew)).mono ?_
                rintro e wa ⟨A8, n8, c8, rfl, hO8, hE8⟩
                have hEa := ((E.refl w15).drew).trans hE8
                (try go_wp2_with fail)
                refine hK.out _ _ (fun o => hEa.cell (p := ⟨B, o, none⟩) hB15) (fun hHeld2 => ?_)
                clear hK K hHeld
                (try simp only [Act.put, List.setIfInBounds_toArray, List.set_cons_zero, List.set_cons_succ])
                have HSB := Lib.hid (sameBytes_c A8 Ai n8 c8 ni ci Li Li wa hO8.reads (hN7.e hEa))
                rw [show sameB Li Li = true by simp [sameB]] at HSB
                (((refine wpAnyH_ready (rs := [21]) (by kernel_rfl) (by simp) ?_); (refine AllReadyH.cons rfl (fun K hK => ?_) AllReadyH.nil); (rw [if_pos (by kernel_rfl)]); go_simp))
                refine HSB.out.mono ?_
                rintro e wb ⟨rfl, hQb⟩
                have hEb := hEa.q hQb
                (try go_wp2_with fail)
                refine hK.out _ _ (fun o => hEb.cell (p := ⟨B, o, none⟩) hB15) (fun hHeld3 => ?_)
                clear hK K hHeld2
                (try simp only [Act.put, List.setIfInBounds_toArray, List.set_cons_zero, List.set_cons_succ])
                (((refine wpAnyH_take (i := 22) (v := ?_) rfl (by kernel_rfl) (by kernel_rfl) (by kernel_rfl) (fun _ _ _ h => h) (Or.inl ⟨by kernel_rfl, ?_⟩) (by assumption) ?_); rotate_left 1; (focus (intro w hSw; (try dsimp only at hSw); go_simp; (try with_reducible rfl))); (try simp only [Act.put, List.setIfInBounds_toArray, List.set_cons_zero, List.set_cons_succ])); ((refine wpAnyH_take (i := 23) (v := ?_) rfl (by kernel_rfl) (by kernel_rfl) (by kernel_rfl) (fun _ _ _ h => h) (Or.inl ⟨by kernel_rfl, ?_⟩) (by assumption) ?_); rotate_left 1; (focus (intro w hSw; (try dsimp only at hSw); go_simp; (try with_reducible rfl))); (try simp only [Act.put, List.setIfInBounds_toArray, List.set_cons_zero, List.set_cons_succ])); ((refine wpAnyH_take (i := 24) (v := ?_) rfl (by kernel_rfl) (by kernel_rfl) (by kernel_rfl) (fun _ _ _ h => h) (Or.inl ⟨by kernel_rfl, ?_⟩) (by assumption) ?_); rotate_left 1; (focus (intro w hSw; (try dsimp only at hSw); go_simp; (try with_reducible rfl))); (try simp only [Act.put, List.setIfInBounds_toArray, List.set_cons_zero, List.set_cons_succ])))
                refine wpAnyH_done (by kernel_rfl) ?_ _
                go_simp
                go_wp2_with fail
                go_meet
                exact ⟨rfl, hE15.trans hEb⟩
              case rest =>
                obtain ⟨rfl, hEx⟩ := hcut
                generalize wc = w16 at *
                go_wp2_with fail
                go_roundw
                case rel => exact ⟨i + 1, by omega, by go_num, hEx⟩
                case measure => simp [intOf]; omega
            · have hD := decF_err (b := Li) (by rw [hdec]; exact hf)
              rw [hdec] at hD
              injection hD with hy hf2
              subst hy hf2
              obtain rfl : n7 = 0 := hbd7.len.symm
              clear hdec hf hby hlenL hbd7 hc7 hN7
              go_wp2_with fail
              go_quiet (fail)
              go_wp2_with fail
              go_roundw
              case rel => exact ⟨i + 1, by omega, by go_num, hE15.drewN _⟩
              case measure => simp [intOf]; omega
          · have hi3I : ¬ (i : Int) < 3 := by omega
            go_wp2_with fail
            refine (lives27_c _).mono ?_
            rintro e w20 ⟨rfl, hE20⟩
            go_wp2_with fail
            go_ret
            exact ⟨rfl, (hEw13.trans hE).trans hE20⟩
end Go.Proofs.Ytpbkfpkgbfifaaa
