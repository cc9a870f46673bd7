/- The walk of BidsApart. -/
import Derived.Test.YtpbkfpkgbfifaaaKTo
import Derived.Test.YtpbkfpkgbfifaaaKFb
namespace Go.Proofs.Ytpbkfpkgbfifaaa
open Go.RowKit

theorem lotsOk_srt {n : Nat} : ∀ (c : List Nat) (last : Int), (∀ j ∈ c, last < (j : Int)) → c.Pairwise (· < ·) → (∀ j ∈ c, j < n) → lotsOk n last (ints c) = true
  | [], _, _, _, _ => rfl
  | x :: c, last, h1, h2, h3 => by
    rw [List.pairwise_cons] at h2
    simp only [ints, List.map_cons, lotsOk, Bool.and_eq_true, decide_eq_true_eq]
    exact ⟨⟨h1 x List.mem_cons_self, by have := h3 x List.mem_cons_self; omega⟩, lotsOk_srt c x (fun j hj => by have := h2.1 j hj; omega) h2.2 fun j hj => h3 j (List.mem_cons_of_mem _ hj)⟩
theorem toN_ints (c : List Nat) : toN (ints c) = c := by
  rw [toN, ints, List.map_map]
  conv => rhs; rw [← List.map_id c]
  apply List.map_congr_left
  intro x _
  simp
theorem feasZ_srt {l : List Bd} {c : List Nat} (h1 : c.Pairwise (· < ·)) (h2 : ∀ j ∈ c, j < l.length) : feasZ l (ints c) = apartB l c := by
  rw [feasZ, toN_ints, lotsOk_srt c (-1) (fun j _ => by omega) h1 h2, Bool.true_and]
theorem contains_ints (g : List Nat) (x : Nat) : (ints g).contains (x : Int) = g.contains x := by
  rw [Bool.eq_iff_iff]
  simp only [List.contains_iff_mem, ints, List.mem_map]
  constructor
  · rintro ⟨y, hy, e⟩; have : y = x := by omega
    subst this; exact hy
  · intro h; exact ⟨x, h, rfl⟩
theorem flat_take {α : Type} {L : List (List α)} {k : Nat} {g : List α} (h : L[k]? = some g) : (L.take (k + 1)).flatten.length = (L.take k).flatten.length + g.length ∧ (L.take (k + 1)).flatten.length ≤ L.flatten.length := by
  refine ⟨?_, ?_⟩
  · rw [List.take_add_one, h, List.flatten_append, List.length_append]; simp
  · conv => rhs; rw [← List.take_append_drop (k + 1) L]
    rw [List.flatten_append, List.length_append]; omega
theorem rows_get {w : World} {A : Option Addr} {n c : Nat} {P : List (List Nat)} (h : RowsAt w A n c (P.map ints)) {i : Nat} (hi : i < n) : ∃ b o g A' n' c', A = some ⟨b, o, none⟩ ∧ b < w.heap.size ∧ P[i]? = some g ∧ w.cell? ⟨b, o + i, none⟩ = some (.slice A' n' c') ∧ Nums .i64 w A' n' c' (ints g) := by
  obtain ⟨b, o, x, A', n', c', e, hb, hx, hc, hN⟩ := h.get hi
  rw [List.getElem?_map] at hx
  obtain ⟨g, hg, rfl⟩ := Option.map_eq_some_iff.1 hx
  exact ⟨b, o, g, A', n', c', e, hb, hg, hc, hN⟩
theorem all_take {P : List (List Nat)} {k : Nat} {g : List Nat} (h : P[k]? = some g) (f : List Nat → Bool) : ((P.take (k + 1)).all f) = ((P.take k).all f && f g) := by
  rw [List.take_add_one, h, List.all_append]; simp
theorem cnt_take {P : List (List Nat)} {k : Nat} {g : List Nat} (h : P[k]? = some g) (f : List Nat → Bool) : ((P.take (k + 1)).filter f).length = ((P.take k).filter f).length + if f g = true then 1 else 0 := by
  rw [List.take_add_one, h, List.filter_append, List.length_append]
  congr 1
  by_cases e : f g = true
  · rw [if_pos e]; simp [e]
  · rw [if_neg e]; simp [e]
theorem own_take {c : List Nat} {k x : Nat} (h : c[k]? = some x) (f : Nat → Bool) : (c.take (k + 1)).filter f = (c.take k).filter f ++ if f x = true then [x] else [] := by
  rw [List.take_add_one, h, List.filter_append]
  congr 1
  by_cases e : f x = true
  · rw [if_pos e]; simp [e]
  · rw [if_neg e]; simp [e]
set_option maxHeartbeats 16000000 in
set_option maxRecDepth 100000 in
theorem bidsApart_w (N bits : Int) (A : Option Addr) (n c : Nat) (l : List Int) (w : World) (h : Nums .i64 w A n c l) (hN1 : -9223372036854775808 ≤ N) (hN2 : N ≤ 9223372036854775807) (hi1 : -9223372036854775808 ≤ bits) (hi2 : bits ≤ 9223372036854775807) :
    Calls Try.prog 8 #[.int .i64 N, .slice A n c, .int .i64 bits] w (RetK w true) := by
  have hr := aroN_range N (m := 8) (by omega)
  have HL := Lib.hid (lots27_c N w hN1 hN2)
  obtain ⟨K, hK⟩ : ∃ K : Nat, 1 + aroN N 8 = K := ⟨(1 + aroN N 8).toNat, by omega⟩
  rw [hK] at HL
  have hK1 : 1 ≤ K := by omega
  have hK8 : K ≤ 8 := by omega
  clear hK hr
  have HB := Lib.hid (bids27_c K 10 A n c l w h hK1 hK8 (by omega))
  have HA1 := Lib.hid (fun W => around1_c bits 1024 W hi1 hi2 (by omega) (by omega))
  have hra := aroN_range bits (m := 1024) (by omega)
  have hqr := tdiv_range hi1 hi2
  have HA2 := Lib.hid (fun W => around1_c (bits.tdiv 1024) 1024 W hqr.1 hqr.2 (by omega) (by omega))
  have hrb := aroN_range (bits.tdiv 1024) (m := 1024) (by omega)
  obtain ⟨ra, hra'⟩ : ∃ ra : Nat, aroN bits 1024 = ra := ⟨(aroN bits 1024).toNat, by omega⟩
  obtain ⟨rb, hrb'⟩ : ∃ rb : Nat, aroN (bits.tdiv 1024) 1024 = rb := ⟨(aroN (bits.tdiv 1024) 1024).toNat, by omega⟩
  rw [hra'] at HA1 hra
  rw [hrb'] at HA2 hrb
  obtain ⟨ra0, ra1⟩ := hra
  obtain ⟨rb0, rb1⟩ := hrb
  clear hra' hrb' hqr
  go_enter Try.func8, Try.ntmps8
  go_wp2_with fail
  refine HL.out.mono ?_
  rintro e w' ⟨rfl, rfl⟩
  go_wp2_with fail
  refine HB.out.mono ?_
  rintro e w1 ⟨lb, hlb, hgen, A1, n1, c1, q1, rfl, hR1, hq1, hE1⟩
  have hn1 : n1 ≤ 10 := by rw [← hR1.1, ← List.length_map (f := Prod.fst), hq1]; exact hlb
  have hbd1 := hR1.bids
  rw [hq1] at hbd1
  have h1000 := gen_1000 hgen (by omega) (by omega)
  have HG := Lib.hid (given7_c _ _ _ _ _ hbd1 (by omega))
  clear HB HL hq1 hR1 hgen
  go_wp2_with fail
  refine HG.out.mono ?_
  rintro e w2 ⟨A2, n2, c2, q2, rfl, hR2, hq2, hE2⟩
  have hbd2 := hR2.bids
  rw [hq2] at hbd2
  have hn2 : n2 ≤ 10 := by rw [← hbd2.len]; exact hlb
  have hl2 := hbd2.len
  have HP := Lib.hid (parts_c _ _ _ _ _ hbd2 (by omega) h1000)
  have hEw2 := hE1.trans hE2
  clear HG hR2 hq2 hbd1 hE1 hE2
  go_wp2_with fail
  refine HP.out.mono ?_
  rintro e w3 ⟨A3, n3, c3, q3, rfl, hG3, hq3, hE3⟩
  have hrw := hG3.rows
  rw [hq3] at hrw
  have hand := and_i64 ra rb (by omega) (by omega)
  have hle : ra &&& rb ≤ ra := Nat.and_le_left
  generalize ra &&& rb = rc at *
  have H1000 := Lib.hid h1000
  have HPL := Lib.hid (parts_len lb)
  have HPC := Lib.hid (fun x (hx : x < lb.length) => parts_cnt lb hx)
  have HPA := Lib.hid (fun i k g g' (h1 : (partsF lb)[i]? = some g) (h2 : (partsF lb)[k]? = some g') hne => parts_apart h1 h2 hne)
  have HPX := Lib.hid (fun g (hg : g ∈ partsF lb) => parts_lt hg)
  have HPN := Lib.hid (fun g (hg : g ∈ partsF lb) cut (h1 : 1 ≤ cut) (h2 : cut < g.length) => parts_conn hg h1 h2)
  have hwr := chF_range n2 0 rc
  have HWR := Lib.hid hwr
  have HPF := Lib.hid (parts_feas lb (c := chF 0 n2 rc) hwr.1 (fun i hi => by have := (hwr.2 i hi).2; omega))
  have hwl : (chF 0 n2 rc).length ≤ 10 := by
    have h3 := nodup_len (hwr.1.imp (fun h e => by omega)) (fun x hx => (hwr.2 x hx).2)
    omega
  have HWL := Lib.hid hwl
  have HCH := Lib.hid (fun W => choice_c rc n2 W (by omega) (by omega))
  generalize partsF lb = P at *
  generalize chF 0 n2 rc = win at *
  have hbd3 := hbd2.e hE3
  have hEw3 := hEw2.trans hE3
  clear HP hG3 hq3 h1000 hwr hwl hbd2 hE3 hEw2
  go_wp2_with fail
  refine (HA1.out _).mono ?_
  rintro e w' ⟨rfl, rfl⟩
  go_wp2_with fail
  refine (HA2.out _).mono ?_
  rintro e w' ⟨rfl, rfl⟩
  go_wp2_with fail
  refine (HCH.out _).mono ?_
  rintro e w4 ⟨A4, n4, c4, rfl, hO4, hE4⟩
  have hN4 := hO4.reads
  have hn4 : n4 ≤ 10 := by have := hO4.1; rw [ints_len] at this; have := HWL.out; omega
  have HN4L := Lib.hid (show win.length = n4 by have := hO4.1; rwa [ints_len] at this)
  have hrw4 := hrw.e hE4
  have hbd4 := hbd3.e hE4
  have hEw4 := hEw3.trans hE4
  have hn3 := hrw4.n63
  clear hO4 hrw hbd3 hEw3 hE4 HCH HA1 HA2 hand hle
  go_wp2_with fail
  go_loopw [12] (fun ti wr => ∃ i : Nat, i ≤ n3 ∧ ti = .int .i64 i ∧ E w4 wr) (fun ti _ => n3 - (intOf ti).toNat)
  case atStart => exact ⟨0, Nat.zero_le _, rfl, E.refl _⟩
  case round =>
    obtain ⟨i, hi, rfl, hE⟩ := hrel
    by_cases hil : (i : Int) < (n3 : Int)
    · obtain ⟨b, o, g, A', n', c', rfl, hb, hg, hc, hN⟩ := rows_get (hrw4.e hE) (i := i) (by omega)
      have HI := Lib.hid (indices_c A' n' c' g n2 wr hN (fun x hx => by have := HPX.out g (List.mem_of_getElem? hg) x hx; omega))
      clear hg hN
      go_wp2_with fail
      refine HI.out.mono ?_
      rintro e w5 ⟨rfl, hE5⟩
      go_wp2_with fail
      go_roundw
      case rel => exact ⟨i + 1, by omega, by go_num, hE.trans hE5⟩
      case measure => simp [intOf]; omega
    · go_wp2_with fail
      obtain ⟨w5, hw5⟩ : ∃ w5, w5 = wr := ⟨_, rfl⟩
      subst hw5
      have hrw5 := hrw4.e hE
      have hbd5 := hbd4.e hE
      have hN5 := hN4.e hE
      have hEw5 := hEw4.trans hE
      clear hrw4 hbd4 hN4 hEw4 hE hil hi
      go_loopw [10, 11, 13] (fun t10 t11 ti wr => ∃ (i cnt : Nat) (fe : Bool), i ≤ n3 ∧ ti = .int .i64 i ∧ t10 = .int .i64 cnt ∧ t11 = .bool fe ∧ E w5 wr ∧ cnt ≤ 10 ∧ Hid (cnt = (P.take i).flatten.length) ∧ Hid (fe = (P.take i).all fun g => apartB lb (win.filter fun x => g.contains x))) (fun _ _ ti _ => n3 - (intOf ti).toNat)
      case atStart => exact ⟨0, 0, true, Nat.zero_le _, rfl, rfl, rfl, E.refl _, Nat.zero_le _, rfl, rfl⟩
      case round =>
        obtain ⟨i, cnt, fe, hi, rfl, rfl, rfl, hE, hcn, hcnt, hfe⟩ := hrel
        by_cases hil : (i : Int) < (n3 : Int)
        · obtain ⟨b, o, g, A', n', c', rfl, hb, hg, hc, hNg⟩ := rows_get (hrw5.e hE) (i := i) (by omega)
          have HGL := Lib.hid (show g.length = n' by have := hNg.len; rwa [ints_len] at this)
          obtain ⟨f1, f2⟩ := flat_take hg
          have hcn2 : cnt + n' ≤ 10 := by have := HPL.out; have := hcnt.out; have := HGL.out; omega
          have HCN := Lib.hid (show cnt + n' = (P.take (i + 1)).flatten.length by have := hcnt.out; have := HGL.out; omega)
          have HFE := Lib.hid (all_take hg (fun g => apartB lb (win.filter fun x => g.contains x)))
          rw [← hfe.out] at HFE
          have HGM := Lib.hid hg
          have hgm := List.mem_of_getElem? hg
          obtain ⟨wi, hwi⟩ : ∃ wi, wi = wr := ⟨_, rfl⟩
          subst hwi
          clear f1 f2 hcnt hfe hg
          go_wp2_with fail
          go_loopw [14, 15] (fun t14 ti wr => ∃ (k mk c6 : Nat) (A6 : Option Addr), k ≤ n4 ∧ ti = .int .i64 k ∧ t14 = .slice A6 mk c6 ∧ Own .i64 3 wr wi.heap.size A6 mk c6 (ints ((win.take k).filter fun x => g.contains x)) ∧ E wi wr ∧ mk ≤ k) (fun _ ti _ => n4 - (intOf ti).toNat)
          case atStart => exact ⟨0, 0, 0, none, Nat.zero_le _, rfl, rfl, Own.nil _ _ _ _, E.refl _, Nat.le_refl _⟩
          case round =>
            obtain ⟨k, mk, c6, A6, hk, rfl, rfl, hO6, hE6, hmk⟩ := hrel
            by_cases hkl : (k : Int) < (n4 : Int)
            · obtain ⟨b4, o4, x, rfl, hb4, hx, hwx, hcx⟩ := ((hN5.e hE).e hE6).get (i := k) (by omega)
              obtain ⟨xa, hxa, rfl⟩ : ∃ xa : Nat, win[k]? = some xa ∧ (xa : Int) = x := by
                rw [ints, List.getElem?_map] at hx
                cases e : win[k]? with
                | none => rw [e] at hx; simp at hx
                | some z => rw [e] at hx; exact ⟨z, rfl, by simpa using hx⟩
              have HH := Lib.hid (fun W (hW : E wr W) => has1_c A' n' c' (ints g) (xa : Int) W ((hNg.e hE6).e hW))
              rw [contains_ints] at HH
              have HOT := Lib.hid (own_take hxa fun x => g.contains x)
              have hcr := (hE6.cell (p := ⟨b, o + i, none⟩) hb).trans hc
              clear hx hxa
              cases hgc : g.contains xa
              · rw [hgc] at HH
                have HK := Lib.hid (show (win.take (k + 1)).filter (fun x => g.contains x) = (win.take k).filter fun x => g.contains x by rw [HOT.out, hgc]; simp)
                clear hgc HOT
                go_wp2_with fail
                go_still_tail 8, (by kernel_rfl)
                go_wp2_with fail
                refine (HH.out _ ((E.refl wr).drew)).mono ?_
                rintro e w7 ⟨rfl, hE7⟩
                have hE67 := ((E.refl wr).drew).trans hE7
                go_wp2_with fail
                exact ⟨⟨k + 1, mk, c6, _, by omega, by go_num, rfl, by rw [HK.out]; exact hO6.e hE67, hE6.trans hE67, by omega⟩, by simp [intOf]; omega⟩
              · rw [hgc] at HH
                have HK := Lib.hid (show (win.take (k + 1)).filter (fun x => g.contains x) = ((win.take k).filter fun x => g.contains x) ++ [xa] by rw [HOT.out, hgc]; simp)
                clear hgc HOT
                go_wp2_with fail
                go_still_tail 8, (by kernel_rfl)
                go_wp2_with fail
                refine (HH.out _ ((E.refl wr).drew)).mono ?_
                rintro e w7 ⟨rfl, hE7⟩
                have hE67 := ((E.refl wr).drew).trans hE7
                have hO7 := hO6.e hE67
                have hcx7 := (hE67.cell (p := ⟨b4, o4 + k, none⟩) hb4).trans hcx
                have hle7 := Nat.le_trans hE6.le hE67.le
                clear hE7 hO6 hcx
                go_wp2_with (first | (refine wpList_app1n intTk _ rfl _ _ rfl wi.heap.size _ _ _ _ rfl hO7 (xa : Int) rfl hwx (by omega) hle7 ?_; intro g' c9 w9 hO9 hG9 hB9 _) | fail)
                exact ⟨⟨k + 1, mk + 1, c9, _, by omega, by go_num, rfl, by rw [HK.out, ints_app]; exact hO9, (hE6.trans hE67).up hB9, by omega⟩, by simp [intOf]; omega⟩
            · have hkn : k = n4 := by omega
              subst hkn
              have hwt : win.take k = win := List.take_of_length_le (by have := HN4L.out; omega)
              rw [hwt] at hO6
              have hfs : feasZ lb (ints (win.filter fun x => g.contains x)) = apartB lb (win.filter fun x => g.contains x) := feasZ_srt (List.Pairwise.filter _ HWR.out.1) (fun j hj => by have := (HWR.out.2 j (List.mem_filter.1 hj).1).2; omega)
              have HFZ := Lib.hid (bFeasible_c _ _ _ lb A6 mk c6 _ wr ((hbd5.e hE).e hE6) hO6.reads (by omega) H1000.out)
              rw [hfs] at HFZ
              generalize apartB lb (win.filter fun x => g.contains x) = fg at *
              clear hwt hfs hO6
              go_upto_region 21 with fail
              go_cut [11] (fun t11 wx => t11 = .bool (fe && fg) ∧ E wi wx)
              case first =>
                cases fe
                · go_wp2_with fail
                  go_meet
                  exact ⟨rfl, hE6⟩
                · go_wp2_with fail
                  refine HFZ.out.mono ?_
                  rintro e w7 ⟨rfl, hE7⟩
                  go_wp2_with fail
                  go_meet
                  exact ⟨by simp, hE6.trans hE7⟩
              case rest =>
                obtain ⟨rfl, hE7⟩ := hcut
                generalize wc = w7 at *
                have hE57 := hE.trans hE7
                have hNg7 := hNg.e hE7
                clear HFZ hE6 hmk
                go_wp2_with fail
                go_loopw [16] (fun ti wr => ∃ j : Nat, j ≤ n3 ∧ ti = .int .i64 j ∧ E w7 wr) (fun ti _ => n3 - (intOf ti).toNat)
                case atStart => exact ⟨0, Nat.zero_le _, rfl, E.refl _⟩
                case round =>
                  obtain ⟨j, hj, rfl, hEj⟩ := hrel
                  by_cases hjl : (j : Int) < (n3 : Int)
                  · by_cases hji : j = i
                    · have d0 : ((j : Int) != (i : Int)) = false := by simp; omega
                      have HJI := Lib.hid hji
                      clear hji
                      go_wp2_with fail
                      have d1 : ((j : Int) != (i : Int)) = false := by have := HJI.out; simp; omega
                      go_quiet (fail)
                      go_wp2_with fail
                      exact ⟨⟨j + 1, by omega, by go_num, hEj.drewN _⟩, by simp [intOf]; omega⟩
                    · obtain ⟨b', o', g2, B', m', d', e3, hb', hg2, hc', hNg2⟩ := rows_get ((hrw5.e hE57).e hEj) (i := j) (by omega)
                      injection e3 with e3
                      injection e3 with e3 e4
                      subst e3 e4
                      have HT := Lib.hid (fun W (hW : E wr W) => touch_c _ _ _ lb A' B' n' c' m' d' g g2 W (((hbd5.e hE57).e hEj).e hW) ((hNg7.e hEj).e hW) (hNg2.e hW) (fun x hx => by have := HPX.out g hgm x hx; omega) (fun x hx => by have := HPX.out g2 (List.mem_of_getElem? hg2) x hx; omega))
                      rw [HPA.out i j g g2 HGM.out hg2 (fun e => hji e.symm)] at HT
                      have hcr := ((hE7.trans hEj).cell (p := ⟨b, o + i, none⟩) hb).trans hc
                      have hbw : b < wr.heap.size := hb'
                      have d0 : ((j : Int) != (i : Int)) = true := by simp; omega
                      clear hg2 hji
                      go_wp2_with fail
                      go_region_held3 (fun w' => wr.heap.size ≤ w'.heap.size ∧ ∀ b o, b < wr.heap.size → w'.cell? ⟨b, o, none⟩ = wr.cell? ⟨b, o, none⟩) (first | exact ⟨Nat.le_refl _, fun _ _ _ => rfl⟩ | exact ⟨hEa.le, fun b o hb => hEa.cell (p := ⟨b, o, none⟩) hb⟩)
                        ((go_at_call 37; refine (HT.out _ ((E.refl wr).drew)).mono ?_; rintro e wa ⟨rfl, hE4⟩; have hEa := ((E.refl wr).drew).trans hE4))
                      all_goals
                        go_wp2_with fail
                        exact ⟨⟨j + 1, by omega, by go_num, hEj.trans hEa⟩, by simp [intOf]; omega⟩
                  · obtain ⟨w8, hw8⟩ : ∃ w8, w8 = wr := ⟨_, rfl⟩
                    subst hw8
                    have hE58 := hE57.trans hEj
                    have hNg8 := hNg7.e hEj
                    have hc8 := ((hE7.trans hEj).cell (p := ⟨b, o + i, none⟩) hb).trans hc
                    have hb8 : b < w8.heap.size := Nat.lt_of_lt_of_le hb (hE7.trans hEj).le
                    clear hE57 hNg7 hE7
                    go_wp2_with fail
                    go_loopw [17] (fun ti wr => ∃ cut : Nat, 1 ≤ cut ∧ cut ≤ n' + 1 ∧ ti = .int .i64 cut ∧ E w8 wr) (fun ti _ => n' + 1 - (intOf ti).toNat)
                    case atStart => exact ⟨1, Nat.le_refl _, by omega, rfl, E.refl _⟩
                    case round =>
                      obtain ⟨cut, hc1, hc2, rfl, hEc⟩ := hrel
                      have hcr := (hEc.cell (p := ⟨b, o + i, none⟩) hb8).trans hc8
                      by_cases hcl : (cut : Int) < (n' : Int)
                      · obtain ⟨bg, og, rfl, _⟩ := hNg8.at_ (by omega)
                        have hNr := hNg8.e hEc
                        have hcap := hNr.cap
                        have hmx := hNr.c63
                        have hNt := hNr.take_ (m := cut) (by omega)
                        have hNd := hNr.drop_ (m := cut) (by omega)
                        have et : (ints g).take cut = ints (g.take cut) := by unfold ints; rw [List.map_take]
                        have ed : (ints g).drop cut = ints (g.drop cut) := by unfold ints; rw [List.map_drop]
                        rw [et] at hNt
                        rw [ed] at hNd
                        have HT := Lib.hid (fun W (hW : E wr W) => touch_c _ _ _ lb _ _ _ _ _ _ (g.take cut) (g.drop cut) W (((hbd5.e hE58).e hEc).e hW) (hNt.e hW) (hNd.e hW) (fun x hx => by have := HPX.out g hgm x (List.mem_of_mem_take hx); omega) (fun x hx => by have := HPX.out g hgm x (List.mem_of_mem_drop hx); omega))
                        rw [HPN.out g hgm cut hc1 (by have := HGL.out; omega)] at HT
                        have k1 : (cut : Int) ≤ (c' : Int) := by omega
                        have k2 : (cut : Int) ≤ (n' : Int) := by omega
                        have k3 : (n' : Int) ≤ (c' : Int) := by omega
                        clear et ed hNt hNd hNr
                        go_wp2_with fail
                        refine wp_region_still_tail 13 (by kernel_rfl) (by kernel_rfl) ?_
                        simp only [List.take_succ_cons, List.take_zero, List.drop_succ_cons, List.drop_zero]
                        repeat still_step
                        refine wpStill_nil ?_
                        go_wp2_with fail
                        refine (HT.out _ ((E.refl wr).drew)).mono ?_
                        rintro e w9 ⟨rfl, hE9⟩
                        go_wp2_with fail
                        exact ⟨⟨cut + 1, by omega, by omega, by go_num, (hEc.trans ((E.refl wr).drew)).trans hE9⟩, by simp [intOf]; omega⟩
                      · go_wp2_with fail
                        exact ⟨⟨i + 1, cnt + n', fe && fg, by omega, by go_num, rfl, rfl, hE58.trans hEc, hcn2, HCN.out, HFE.out.symm⟩, by simp [intOf]; omega⟩
        · obtain ⟨w6, hw6⟩ : ∃ w6, w6 = wr := ⟨_, rfl⟩
          subst hw6
          have hin : P.length = n3 := by have := hrw5.len; rwa [List.length_map] at this
          have hpt : P.take i = P := List.take_of_length_le (by omega)
          have hcn3 : cnt = n2 := by rw [hcnt.out, hpt, HPL.out]; exact hl2
          have HFF := Lib.hid (show fe = apartB lb win by rw [hfe.out, hpt]; exact HPF.out)
          have hrw6 := hrw5.e hE
          have hbd6 := hbd5.e hE
          have hN6 := hN5.e hE
          have hEw6 := hEw5.trans hE
          have HIN := Lib.hid hin
          subst hcn3
          clear hpt hcnt hfe hrw5 hbd5 hN5 hEw5 hE hin
          go_wp2_with fail
          go_loopw [18] (fun ti wr => ∃ j : Nat, j ≤ cnt ∧ ti = .int .i64 j ∧ E w6 wr) (fun ti _ => cnt - (intOf ti).toNat)
          case atStart => exact ⟨0, Nat.zero_le _, rfl, E.refl _⟩
          case round =>
            obtain ⟨j, hj, rfl, hEj⟩ := hrel
            by_cases hjl : (j : Int) < (cnt : Int)
            · go_wp2_with fail
              go_loopw [19, 20] (fun t19 ti wr => ∃ k fo : Nat, k ≤ n3 ∧ ti = .int .i64 k ∧ t19 = .int .i64 fo ∧ E w6 wr ∧ fo ≤ k ∧ Hid (fo = ((P.take k).filter fun g => g.contains j).length)) (fun _ ti _ => n3 - (intOf ti).toNat)
              case atStart => exact ⟨0, 0, Nat.zero_le _, rfl, rfl, hEj, Nat.le_refl _, rfl⟩
              case round =>
                clear hEj
                obtain ⟨k, fo, hk, rfl, rfl, hEk, hfo, hfc⟩ := hrel
                by_cases hkl : (k : Int) < (n3 : Int)
                · obtain ⟨b, o, g, A', n', c', rfl, hb, hg, hc, hNg⟩ := rows_get (hrw6.e hEk) (i := k) (by omega)
                  have HH := Lib.hid (has1_c A' n' c' (ints g) (j : Int) wr hNg)
                  rw [contains_ints] at HH
                  have HCT := Lib.hid (cnt_take hg fun g => g.contains j)
                  clear hg hNg
                  cases hgc : g.contains j
                  · rw [hgc] at HH
                    have HK := Lib.hid (show fo = ((P.take (k + 1)).filter fun g => g.contains j).length by rw [HCT.out, hgc, ← hfc.out]; simp)
                    clear hgc HCT
                    go_wp2_with fail
                    refine HH.out.mono ?_
                    rintro e w7 ⟨rfl, hE7⟩
                    go_wp2_with fail
                    exact ⟨⟨k + 1, fo, by omega, by go_num, rfl, hEk.trans hE7, by omega, HK.out⟩, by simp [intOf]; omega⟩
                  · rw [hgc] at HH
                    have HK := Lib.hid (show fo + 1 = ((P.take (k + 1)).filter fun g => g.contains j).length by rw [HCT.out, hgc, ← hfc.out]; simp)
                    clear hgc HCT
                    go_wp2_with fail
                    refine HH.out.mono ?_
                    rintro e w7 ⟨rfl, hE7⟩
                    go_wp2_with fail
                    exact ⟨⟨k + 1, fo + 1, by omega, by go_num, by go_num, hEk.trans hE7, by omega, HK.out⟩, by simp [intOf]; omega⟩
                · have hf1 : fo = 1 := by rw [hfc.out, List.take_of_length_le (by have := HIN.out; omega)]; exact HPC.out j (by omega)
                  subst hf1
                  clear hfc
                  go_wp2_with fail
                  exact ⟨⟨j + 1, by omega, by go_num, hEk⟩, by simp [intOf]; omega⟩
            · have hfw : feasZ lb (ints win) = apartB lb win := feasZ_srt HWR.out.1 (fun x hx => by have := (HWR.out.2 x hx).2; omega)
              have HFZ := Lib.hid (bFeasible_c _ _ _ lb A4 n4 c4 _ wr (hbd6.e hEj) (hN6.e hEj) (by omega) H1000.out)
              rw [hfw, ← HFF.out] at HFZ
              clear hfw
              have e0 : (fe == fe) = true := by simp
              have HLi := Lib.hid (fun W => lives27_c W)
              go_wp2_with fail
              refine HFZ.out.mono ?_
              rintro e w7 ⟨rfl, hE7⟩
              go_wp2_with fail
              refine (HLi.out _).mono ?_
              rintro e w8 ⟨rfl, hE8⟩
              go_wp2_with fail
              go_ret
              exact ⟨ret_bool (by simp), ((hEw6.trans hEj).trans hE7).trans hE8⟩
end Go.Proofs.Ytpbkfpkgbfifaaa
