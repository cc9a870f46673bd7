/- Lemmas of the claim, joined: TR TS TT TU TV TW. No condition. -/
import Derived.Test.YtgbamgijpgjmgaaBC
import Derived.Test.YtgbamgijpgjmgaaBE
/- Take. -/
namespace Go.Proofs.Ytgbamgijpgjmgaa
open Go.RowKit Go.Shelf

theorem splitL_le {t : Int} {ws : List Int} (h : SplitPre t ws) (ht : t ≤ ws.sum) {i : Nat} (hi : i < ws.length) : (splitL t ws).getD i 0 ≤ ws.getD i 0 := by
  obtain ⟨_, h2⟩ := splitL_quota h hi
  have hw := (h.w0 _ (getD_mem hi)).1
  rw [Int.mul_comm] at h2
  by_cases hr : 0 < ws.getD i 0 * t % ws.sum
  · rw [if_pos hr] at h2
    have := ceil_le hw ht h.s0 hr
    omega
  · rw [if_neg hr] at h2
    have := part_le hw ht h.s0
    omega
def nums (l : List Lt) : List Int := l.map fun x => x.2.2
theorem nums_len (l : List Lt) : (nums l).length = l.length := by simp [nums]
def countK (l : List Lt) (n : Int) (mixed : Bool) : List Int := if mixed = true ∧ 0 < n then splitL n (nums l) else firstK n l
def takeS (l : List Lt) (n : Int) (mixed : Bool) : List Lt × List Lt × Int :=
  if validB l = false ∨ n < 0 ∨ 1099511627776 < n then ([], [], 1) else if totL l < n then ([], [], 10) else (putL [] (sel true (pcs l (countK l n mixed))), putL [] (sel false (pcs l (countK l n mixed))), 0)
theorem split_pre {l : List Lt} {n : Int} (hl : ∀ x ∈ l, possB x = true) (hlen : l.length ≤ 4096) (h0 : 0 < n) (h1 : n ≤ 1099511627776) (ht : n ≤ totL l) : SplitPre n (nums l) := by
  have h2 := totL_le hl
  refine ⟨by omega, h1, fun x hx => ?_, ?_, ?_⟩
  · obtain ⟨y, hy, rfl⟩ := List.mem_map.1 hx
    have := possB_iff.1 (hl y hy)
    omega
  · show 0 < totL l; omega
  · show totL l ≤ _; omega
theorem split_range {l : List Lt} {n : Int} (hp : SplitPre n (nums l)) (ht : n ≤ totL l) : ∀ (i : Nat) (x : Lt) (k : Int), l[i]? = some x → (splitL n (nums l))[i]? = some k → 0 ≤ k ∧ k ≤ x.2.2 := fun i x k hx hk => by
  have hi : i < (nums l).length := by rw [nums_len]; exact (List.getElem?_eq_some_iff.1 hx).1
  have h1 := splitL_le hp ht hi
  rw [List.getD_eq_getElem?_getD, List.getD_eq_getElem?_getD, hk, nums, List.getElem?_map, hx] at h1
  exact ⟨(splitL_range hp k (List.mem_of_getElem? hk)).1, h1⟩

/-- the memory of Take's closure -/
def PkSt (ks : List Int) (bp : Nat) (_ : Nat) (w : World) : Prop := ∃ A n c, w.heap[bp]? = some (.cells #[.slice A n c] 23 (0, 0)) ∧ Nums .i64 w A n c ks ∧ (0 < n → ∀ b, ob A = some b → b < bp)
set_option maxHeartbeats 1000000 in
theorem take1_c (ks : List Int) (bp i : Nat) (k : Int) (w : World) (hk : ks[i]? = some k) (hS : PkSt ks bp i w) :
    Calls Try.prog 51 #[.int .i64 i, ptr bp] w fun e w' => e = .returned (.int .i64 k) ∧ PkSt ks bp (i + 1) w' ∧ Ex (fun _ => False) w w' := by
  have HS := Lib.hid hS
  obtain ⟨A, n, c, s1, s2, _⟩ := hS
  have hi : i < n := by rw [← s2.len]; exact (List.getElem?_eq_some_iff.1 hk).1
  have hm := s2.n63
  obtain ⟨b, o, x, rfl, hb, hx, hwx, hcx⟩ := s2.get hi
  rw [hk] at hx
  injection hx with hx
  subst hx
  have cb := (cell_one s1).1
  have hiI : (i : Int) < (n : Int) := by omega
  clear s1 s2 hk
  unfold ptr
  go_enter Try.func51, Try.ntmps51
  go_wp2_with fail
  go_ret
  exact ⟨rfl, HS.out, Ex.refl _ _⟩
theorem take_counter (ks : List Int) (bp : Nat) : Counter 51 [ptr bp] ks (bp + 1) (fun _ => False) (PkSt ks bp) where
  enters := Try.call51
  ylt := fun b hb => hb.elim
  keep := fun i w w' hS hk => by
    obtain ⟨A, n, c, s1, s2, s3⟩ := hS
    refine ⟨A, n, c, (hk bp (by omega)).trans s1, ⟨s2.len, s2.cap, s2.mx, s2.wf, fun h => ?_⟩, s3⟩
    obtain ⟨b, o, e, hb, hc⟩ := s2.at_ h
    have hbb := hk b (by have := s3 h b (by rw [e]; rfl); omega)
    exact ⟨b, o, e, lt_blk (o := w.heap[b]) (by rw [hbb]; exact Array.getElem?_eq_getElem hb), fun i hi => (World.cell?_of_block hbb).trans (hc i hi)⟩
  step := fun i k w hk hS _ => take1_c ks bp i k w hk hS
def RetTk (w : World) (r : List Lt × List Lt × Int) (e : Ending) (w' : World) : Prop :=
  ∃ A1 n1 c1 A2 n2 c2, e = .returned (.tuple #[.slice A1 n1 c1, .slice A2 n2 c2, .int .i64 r.2.2]) ∧ OwnL w' w.heap.size A1 n1 c1 r.1 ∧ OwnL w' w.heap.size A2 n2 c2 r.2.1 ∧ E w w'
theorem RetTk.none_ {w w' : World} {r : List Lt × List Lt × Int} {e : Int} (hr : r = ([], [], e)) (hE : E w w') : RetTk w r (.returned (.tuple #[.slice none 0 0, .slice none 0 0, .int .i64 e])) w' :=
  ⟨none, 0, 0, none, 0, 0, by rw [hr], by rw [hr]; exact OwnL.nil _ _, by rw [hr]; exact OwnL.nil _ _, hE⟩
theorem RetTk.mk_ {w w' : World} {r : List Lt × List Lt × Int} {l1 l2 : List Lt} {A1 A2 : Option Addr} {n1 c1 n2 c2 : Nat} {e : Int} (hr : r = (l1, l2, e)) (h1 : OwnL w' w.heap.size A1 n1 c1 l1) (h2 : OwnL w' w.heap.size A2 n2 c2 l2) (hE : E w w') : RetTk w r (.returned (.tuple #[.slice A1 n1 c1, .slice A2 n2 c2, .int .i64 e])) w' :=
  ⟨A1, n1, c1, A2, n2, c2, by rw [hr], by rw [hr]; exact h1, by rw [hr]; exact h2, hE⟩

set_option maxHeartbeats 8000000 in
set_option maxRecDepth 100000 in
/-- the ways out of Take by an error -/
theorem take_no (m : Int) (mixed : Bool) (A : Option Addr) (n c : Nat) (l : List Lt) (w : World) (h : LotsAt w A n c l) (hno : validB l = false ∨ m < 0 ∨ 1099511627776 < m ∨ totL l < m) :
    Calls Try.prog 16 #[.slice A n c, .int .i64 m, .bool mixed] w (RetTk w (takeS l m mixed)) := by
  have HV := Lib.hid (valid_c A n c l w h)
  have HT := Lib.hid (fun W (hE : E w W) => total_c A n c l W (h.e hE))
  cases hv : validB l
  · rw [hv] at HV
    have HF := Lib.hid (show takeS l m mixed = ([], [], 1) by rw [takeS, if_pos (.inl hv)])
    generalize takeS l m mixed = r at *
    clear hv hno
    go_enter Try.func16, Try.ntmps16
    go_wp2_with fail
    refine HV.out.mono ?_
    rintro e w2 ⟨rfl, hE2⟩
    go_wp2_with fail
    go_ret3
    exact RetTk.none_ HF.out hE2
  · rw [hv] at HV
    by_cases ha : m < 0
    · have HF := Lib.hid (show takeS l m mixed = ([], [], 1) by rw [takeS, if_pos (.inr (.inl ha))])
      generalize takeS l m mixed = r at *
      have da : decide (m < 0) = true := by simpa using ha
      clear hv hno
      go_enter Try.func16, Try.ntmps16
      go_wp2_with fail
      refine HV.out.mono ?_
      rintro e w2 ⟨rfl, hE2⟩
      go_wp2_with fail
      go_ret3
      exact RetTk.none_ HF.out hE2
    · have da : decide (m < 0) = false := by simpa using ha
      by_cases hb : 1099511627776 < m
      · have HF := Lib.hid (show takeS l m mixed = ([], [], 1) by rw [takeS, if_pos (.inr (.inr hb))])
        generalize takeS l m mixed = r at *
        have db : decide (1099511627776 < m) = true := by simpa using hb
        clear hv hno
        go_enter Try.func16, Try.ntmps16
        go_wp2_with fail
        refine HV.out.mono ?_
        rintro e w2 ⟨rfl, hE2⟩
        go_wp2_with fail
        go_ret3
        exact RetTk.none_ HF.out hE2
      · have db : decide (1099511627776 < m) = false := by simpa using hb
        have htm : totL l < m := by
          rcases hno with h | h | h | h
          · rw [hv] at h; cases h
          · exact absurd h ha
          · exact absurd h hb
          · exact h
        have HF := Lib.hid (show takeS l m mixed = ([], [], 10) by
          rw [takeS, if_neg (by rw [hv]; rintro (h1 | h1 | h1) <;> first | exact ha h1 | exact hb h1 | cases h1), if_pos htm])
        have htot : totalS l = totL l := by rw [totalS, hv]; rfl
        rw [htot] at HT
        generalize takeS l m mixed = r at *
        generalize totL l = T at *
        have dT : decide (T < m) = true := by simpa using htm
        clear hv hno htot
        go_enter Try.func16, Try.ntmps16
        go_wp2_with fail
        refine HV.out.mono ?_
        rintro e w2 ⟨rfl, hE2⟩
        go_wp2_with fail
        refine (HT.out _ hE2).mono ?_
        rintro e w3 ⟨rfl, hE3⟩
        go_wp2_with fail
        go_ret3
        exact RetTk.none_ HF.out (hE2.trans hE3)
end Go.Proofs.Ytgbamgijpgjmgaa
/- Take, where it gives units: the oldest ones first, and in proportion. -/
namespace Go.Proofs.Ytgbamgijpgjmgaa
open Go.RowKit Go.Shelf

theorem takeS_yes {l : List Lt} {m : Int} {mixed : Bool} (hv : validB l = true) (h0 : 0 ≤ m) (h1 : m ≤ 1099511627776) (ht : m ≤ totL l) : takeS l m mixed = (putL [] (sel true (pcs l (countK l m mixed))), putL [] (sel false (pcs l (countK l m mixed))), 0) := by
  rw [takeS, if_neg (by rw [hv]; rintro (h | h | h) <;> first | omega | cases h), if_neg (by omega)]
theorem pos_of {l : List Lt} (hl : ∀ x ∈ l, possB x = true) : ∀ x ∈ l, 1 ≤ x.2.2 := fun x hx => (possB_iff.1 (hl x hx)).2.2.2.1
set_option maxHeartbeats 8000000 in
set_option maxRecDepth 100000 in
theorem take_first (m : Int) (mixed : Bool) (A : Option Addr) (n c : Nat) (l : List Lt) (w : World) (h : LotsAt w A n c l) (hv : validB l = true) (h0 : 0 ≤ m) (h1 : m ≤ 1099511627776) (ht : m ≤ totL l) (hm : ¬ (mixed = true ∧ 0 < m)) :
    Calls Try.prog 16 #[.slice A n c, .int .i64 m, .bool mixed] w (RetTk w (takeS l m mixed)) := by
  have HV := Lib.hid (valid_c A n c l w h)
  have HT := Lib.hid (fun W (hE : E w W) => total_c A n c l W (h.e hE))
  have htot : totalS l = totL l := by rw [totalS, hv]; rfl
  obtain ⟨v1, v2⟩ := validB_iff.1 hv
  have hfst := put_first h0 (pos_of v2)
  have HF := Lib.hid (show takeS l m mixed = (glue ((U l).take m.toNat), glue ((U l).drop m.toNat), 0) by
    rw [takeS_yes hv h0 h1 ht, countK, if_neg hm, hfst.1, hfst.2])
  rw [hv] at HV
  rw [htot] at HT
  have hn : n ≤ 4096 := by rw [← h.len]; exact v1
  have HP := Lib.hid v2
  have HA := Lib.hid h.obl
  have HB := Lib.hid (And.intro h0 h1)
  generalize takeS l m mixed = r at *
  generalize totL l = T at *
  have da : decide (m < 0) = false := by simpa using h0
  have db : decide (1099511627776 < m) = false := by simpa using h1
  have dT : decide (T < m) = false := by simpa using ht
  have key : Calls Try.prog 16 #[.slice A n c, .int .i64 m, .bool mixed] w (RetTk w r) := by
    cases mixed
    · clear hv htot hfst v1 v2 h0 h1 ht hm
      go_enter Try.func16, Try.ntmps16
      go_wp2_with fail
      refine HV.out.mono ?_
      rintro e w2 ⟨rfl, hE2⟩
      go_wp2_with fail
      refine (HT.out _ hE2).mono ?_
      rintro e w3 ⟨rfl, hE3⟩
      have hE23 := hE2.trans hE3
      go_wp2_with fail
      refine (firstUnits_c m A n c l w3 (h.e hE23)).mono ?_
      rintro e w4 ⟨rfl, hS4, hE4, hz4⟩
      go_wp2_with fail
      refine (divide_first m A n c l w4 w3.heap.size (w3.heap.size + 1) HB.out.1 (by have := HB.out.2; omega) HP.out (fun h0 b hb => Nat.lt_of_lt_of_le (HA.out h0 b hb) hE23.le) (by omega) (by omega) (by omega) hS4).mono ?_
      rintro e w5 ⟨A1, n1, c1, A2, n2, c2, rfl, hO1, hO2, _, _, _, hX5⟩
      have hXw : Ex (fun b => b = w3.heap.size + 1) w3 w5 := (Ex.of_e (X := fun _ => False) hE4).trans hX5 (fun _ _ x => x.elim) (fun _ _ x => x)
      have hw4 := hE4.le
      have hw3 := hE23.le
      go_wp2_with fail
      go_ret3
      exact RetTk.mk_ HF.out (hO1.rebase (by omega)) (hO2.rebase (by omega)) (hE23.trans (hXw.e (fun i hi => by omega)))
    · have hm0 : m = 0 := by
        rcases Int.lt_or_le 0 m with hh | hh
        · exact absurd ⟨rfl, hh⟩ hm
        · omega
      have dm0 : decide (0 < m) = false := by simp; omega
      clear hv htot hfst v1 v2 h0 h1 ht hm hm0
      go_enter Try.func16, Try.ntmps16
      go_wp2_with fail
      refine HV.out.mono ?_
      rintro e w2 ⟨rfl, hE2⟩
      go_wp2_with fail
      refine (HT.out _ hE2).mono ?_
      rintro e w3 ⟨rfl, hE3⟩
      have hE23 := hE2.trans hE3
      go_wp2_with fail
      refine (firstUnits_c m A n c l w3 (h.e hE23)).mono ?_
      rintro e w4 ⟨rfl, hS4, hE4, hz4⟩
      go_wp2_with fail
      refine (divide_first m A n c l w4 w3.heap.size (w3.heap.size + 1) HB.out.1 (by have := HB.out.2; omega) HP.out (fun h0 b hb => Nat.lt_of_lt_of_le (HA.out h0 b hb) hE23.le) (by omega) (by omega) (by omega) hS4).mono ?_
      rintro e w5 ⟨A1, n1, c1, A2, n2, c2, rfl, hO1, hO2, _, _, _, hX5⟩
      have hXw : Ex (fun b => b = w3.heap.size + 1) w3 w5 := (Ex.of_e (X := fun _ => False) hE4).trans hX5 (fun _ _ x => x.elim) (fun _ _ x => x)
      have hw4 := hE4.le
      have hw3 := hE23.le
      go_wp2_with fail
      go_ret3
      exact RetTk.mk_ HF.out (hO1.rebase (by omega)) (hO2.rebase (by omega)) (hE23.trans (hXw.e (fun i hi => by omega)))
  exact key
/-- the weights so far -/
def wgtK (l : List Lt) (k : Nat) : List Int := nums (l.take k) ++ List.replicate (l.length - k) 0
theorem wgtK_set {l : List Lt} {k : Nat} {x : Lt} (h : l[k]? = some x) : (wgtK l k).set k x.2.2 = wgtK l (k + 1) := by
  have hk := (List.getElem?_eq_some_iff.1 h).1
  have e : (nums (l.take k)).length = k := by rw [nums_len, List.length_take]; omega
  rw [wgtK, List.set_append_right _ _ (by omega), e, Nat.sub_self, show l.length - k = (l.length - (k + 1)) + 1 by omega, List.replicate_succ, List.set_cons_zero, wgtK, List.take_add_one, h]
  simp [nums]
theorem wgtK_full {l : List Lt} {k : Nat} (h : l.length ≤ k) : wgtK l k = nums l := by rw [wgtK, List.take_of_length_le h, show l.length - k = 0 by omega]; simp
set_option maxHeartbeats 8000000 in
set_option maxRecDepth 100000 in
theorem take_mix (m : Int) (A : Option Addr) (n c : Nat) (l : List Lt) (w : World) (h : LotsAt w A n c l) (hv : validB l = true) (h0 : 0 < m) (h1 : m ≤ 1099511627776) (ht : m ≤ totL l) :
    Calls Try.prog 16 #[.slice A n c, .int .i64 m, .bool true] w (RetTk w (takeS l m true)) := by
  have HV := Lib.hid (valid_c A n c l w h)
  have HT := Lib.hid (fun W (hE : E w W) => total_c A n c l W (h.e hE))
  have htot : totalS l = totL l := by rw [totalS, hv]; rfl
  obtain ⟨v1, v2⟩ := validB_iff.1 hv
  have hpre := split_pre v2 v1 h0 h1 ht
  have hrg := split_range hpre ht
  have hsp : splitS m (nums l) = (splitL m (nums l), 0) := by rw [splitS, if_pos (splitOk_of hpre)]
  have HF := Lib.hid (show takeS l m true = (putL [] (sel true (pcs l (splitL m (nums l)))), putL [] (sel false (pcs l (splitL m (nums l)))), 0) by
    rw [takeS_yes hv (by omega) h1 ht, countK, if_pos ⟨rfl, h0⟩])
  rw [hv] at HV
  rw [htot] at HT
  have hn : n ≤ 4096 := by rw [← h.len]; exact v1
  have hm63 := h.n63
  have HP := Lib.hid v2
  have HA := Lib.hid h.obl
  have HR := Lib.hid hrg
  have HSp := Lib.hid hsp
  have HL := Lib.hid h.len
  have HLen := Lib.hid (show (splitL m (nums l)).length = n by rw [splitL_len, nums_len, h.len])
  generalize takeS l m true = r at *
  generalize totL l = T at *
  have da : decide (m < 0) = false := by simp; omega
  have db : decide (1099511627776 < m) = false := by simpa using h1
  have dT : decide (T < m) = false := by simpa using ht
  have d0 : decide (0 < m) = true := by simpa using h0
  have HB := Lib.hid (And.intro h0 h1)
  clear hv htot v1 v2 hpre hrg hsp h0 h1 ht
  go_enter Try.func16, Try.ntmps16
  go_wp2_with fail
  refine HV.out.mono ?_
  rintro e w2 ⟨rfl, hE2⟩
  go_wp2_with fail
  refine (HT.out _ hE2).mono ?_
  rintro e w3 ⟨rfl, hE3⟩
  have hE23 := hE2.trans hE3
  go_wp2_with fail
  refine (firstUnits_c m A n c l w3 (h.e hE23)).mono ?_
  rintro e w4 ⟨rfl, _, hE4, hz4⟩
  have hE24 := hE23.trans hE4
  clear hE2 hE3 hE4 hE23
  go_upto_region 8 with (at_make; refine wpList_mk intTk _ rfl _ _ rfl _ _ _ _ n rfl rfl rfl rfl (by omega) ?_; intro w5 hO5 hE5 hz5)
  rw [hz4] at hO5 hz5
  have hEw5 : E w w5 := hE24.trans hE5
  have hO5 : Own .i64 3 w5 (w3.heap.size + 2) (some ⟨w3.heap.size + 2, 0, none⟩) n n (wgtK l 0) := by
    have e : wgtK l 0 = List.replicate n 0 := by rw [wgtK, HL.out]; simp [nums]
    rw [e]; exact hO5
  have hw3 : w.heap.size ≤ w3.heap.size + 2 := by have := hE24.le; omega
  clear hE24 hE5 hz4
  obtain ⟨g, hg⟩ : ∃ g, w3.heap.size + 2 = g := ⟨_, rfl⟩
  rw [hg] at hO5 hz5 hw3 ⊢
  clear hg
  go_wp2_with fail
  go_loopw [45] (fun ti wr => ∃ k : Nat, k ≤ n ∧ ti = .int .i64 k ∧ Own .i64 3 wr g (some ⟨g, 0, none⟩) n n (wgtK l k) ∧ Ex (fun i => i = g) w5 wr) (fun ti _ => n - (intOf ti).toNat)
  case atStart => exact ⟨0, Nat.zero_le _, rfl, hO5, Ex.refl _ _⟩
  case round =>
    obtain ⟨k, hk, rfl, hO, hX⟩ := hrel
    have hEwr : E w wr := ((Ex.of_e (X := fun i => i = g) hEw5).trans hX (Z := fun i => i = g) (fun _ _ x => x) (fun _ _ x => x)).e (fun i hi => by omega)
    by_cases hlt : k < n
    · obtain ⟨b, o, x, rfl, hb, hx, hwx, c0, c1, c2⟩ := (h.e hEwr).get hlt
      have hkI : (k : Int) < (n : Int) := by omega
      have hSet := (hO.e ((E.refl wr).alloc (.cells #[.int .i64 x.1, .int .i64 x.2.1, .int .i64 x.2.2] 39))).set k x.2.2 hwx.2.2
      rw [wgtK_set hx] at hSet
      obtain ⟨y, hyg, hyl, _, _, hcy, hfy⟩ := (hO.e ((E.refl wr).alloc (.cells #[.int .i64 x.1, .int .i64 x.2.1, .int .i64 x.2.2] 39))).getg hlt
      have HSet := Lib.hid hSet
      have HX := Lib.hid ((hX.alloc (.cells #[.int .i64 x.1, .int .i64 x.2.1, .int .i64 x.2.2] 39)).setCell ⟨g, k, none⟩ (.inr rfl) (.int .i64 x.2.2))
      clear hx hwx hSet hX
      obtain ⟨f, a, q⟩ := x
      simp only at c0 c1 c2 hcy hfy HSet HX
      go_wp2_with fail
      go_roundw
      case rel => exact ⟨k + 1, by omega, by go_num, HSet.out, HX.out⟩
      case measure => simp [intOf]; omega
    · have hOk : Own .i64 3 wr g (some ⟨g, 0, none⟩) n n (nums l) := by
        rw [wgtK_full (by rw [HL.out]; omega)] at hO; exact hO
      have HS := Lib.hid (split_c m (some ⟨g, 0, none⟩) n n (nums l) wr hOk.reads (by omega))
      rw [HSp.out] at HS
      clear hO hOk hX hO5 hEw5
      have hle := hEwr.le
      go_wp2_with fail
      refine HS.out.mono ?_
      rintro e wa ⟨Ap, np, cp, rfl, hOp, hEa⟩
      have hE6 : E w (wa.alloc (.cells #[.slice Ap np cp] 23)) := (hEwr.trans hEa).alloc _
      have hw6 : w.heap.size ≤ wa.heap.size := (hEwr.trans hEa).le
      have hPk : PkSt (splitL m (nums l)) wa.heap.size 0 (wa.alloc (.cells #[.slice Ap np cp] 23)) :=
        ⟨Ap, np, cp, heap_alloc_new _ _, hOp.reads.e ((E.refl wa).alloc _), fun _ b hb => (hOp.ltN b hb).2⟩
      have HD := Lib.hid (ldivide_c (take_counter (splitL m (nums l)) wa.heap.size) (wa.alloc (.cells #[.slice Ap np cp] 23)) A n c l (h.e hE6) (fun h0 b hb => ⟨by have := HA.out h0 b hb; omega, fun x => x⟩) HP.out HLen.out HR.out (by rw [World.size_alloc]; omega) (by omega) hPk)
      clear hPk hOp HSp HS
      go_upto_region 17 with fail
      go_wp2_with fail
      refine HD.out.mono ?_
      rintro e w7 ⟨A1, n1, c1, A2, n2, c2, rfl, hO1, hO2, _, _, _, hX7⟩
      have hE7 := Lib.hid (hE6.trans (hX7.e (fun i hi => hi.elim)))
      have hle6 := hE6.le
      clear hX7 hE6
      go_wp2_with fail
      go_ret3
      exact RetTk.mk_ HF.out (hO1.rebase hle6) (hO2.rebase hle6) hE7.out
theorem take_c (m : Int) (mixed : Bool) (A : Option Addr) (n c : Nat) (l : List Lt) (w : World) (h : LotsAt w A n c l) :
    Calls Try.prog 16 #[.slice A n c, .int .i64 m, .bool mixed] w (RetTk w (takeS l m mixed)) := by
  by_cases hno : validB l = false ∨ m < 0 ∨ 1099511627776 < m ∨ totL l < m
  · exact take_no m mixed A n c l w h hno
  · have hv : validB l = true := by
      cases hv : validB l with
      | false => exact absurd (.inl hv) hno
      | true => rfl
    by_cases hm : mixed = true ∧ 0 < m
    · obtain ⟨rfl, h0⟩ := hm
      exact take_mix m A n c l w h hv h0 (by omega) (by omega)
    · exact take_first m mixed A n c l w h hv (by omega) (by omega) (by omega) hm
end Go.Proofs.Ytgbamgijpgjmgaa
/- The model's Counts and Take. -/
namespace Go.Proofs.Ytgbamgijpgjmgaa
open Go.RowKit Go.Shelf

theorem nums_succ {l : List Lt} {k : Nat} {x : Lt} (h : l[k]? = some x) : nums (l.take (k + 1)) = nums (l.take k) ++ [x.2.2] := by rw [List.take_add_one, h]; simp [nums]
theorem firstK_succ {n : Int} {l : List Lt} {k : Nat} {x : Lt} (h : l[k]? = some x) : (firstK n l).take (k + 1) = (firstK n l).take k ++ [min (leftK n l k) x.2.2] := by rw [List.take_add_one, (firstK_get h).1]; rfl
set_option maxHeartbeats 8000000 in
set_option maxRecDepth 100000 in
theorem refCounts_c (m : Int) (mixed : Bool) (A : Option Addr) (n c : Nat) (l : List Lt) (w : World) (h : LotsAt w A n c l) (hv : validB l = true) (h0 : 0 ≤ m) (h1 : m ≤ 1099511627776) (ht : m ≤ totL l) :
    Calls Try.prog 53 #[.slice A n c, .int .i64 m, .bool mixed] w (RetOwn .i64 3 w (countK l m mixed)) := by
  obtain ⟨v1, v2⟩ := validB_iff.1 hv
  have hn : n ≤ 4096 := by rw [← h.len]; exact v1
  have hm63 := h.n63
  have HL := Lib.hid h.len
  have HP := Lib.hid v2
  have HR := Lib.hid (fun k => leftK_range (l := l) h0 (pos_of v2) k)
  have HF : mixed = true → 0 < m → countK l m mixed = splitL m (nums l) ∧ splitS m (nums l) = (splitL m (nums l), 0) := fun hm hh =>
    ⟨by rw [countK, if_pos ⟨hm, hh⟩], by rw [splitS, if_pos (splitOk_of (split_pre v2 v1 hh h1 ht))]⟩
  have HN : ¬ (mixed = true ∧ 0 < m) → countK l m mixed = firstK m l := fun hh => by rw [countK, if_neg hh]
  have HFF := Lib.hid (And.intro HF HN)
  have HB := Lib.hid (And.intro h0 h1)
  clear HF HN hv v1 v2 ht h0 h1
  generalize countK l m mixed = r at *
  go_enter Try.func53, Try.ntmps53
  go_wp2_with fail
  go_loopw [7, 8, 9, 10] (fun t7 t8 t9 ti wr => ∃ (k c1 c2 : Nat) (A1 A2 : Option Addr) (lf : Int), k ≤ n ∧ ti = .int .i64 k ∧ t7 = .slice A1 k c1 ∧ t8 = .slice A2 k c2 ∧ t9 = .int .i64 lf ∧ Own .i64 3 wr w.heap.size A1 k c1 (nums (l.take k)) ∧ Own .i64 3 wr w.heap.size A2 k c2 ((firstK m l).take k) ∧ apartS A1 A2 ∧ E w wr ∧ Hid (leftK m l k = lf)) (fun _ _ _ ti _ => n - (intOf ti).toNat)
  case atStart => exact ⟨0, 0, 0, none, none, m, Nat.zero_le _, rfl, rfl, rfl, rfl, by simpa [nums] using Own.nil _ _ _ _, by simpa using Own.nil _ _ _ _, apart_none _, E.refl _, show _ = _ by simp [leftK, firstK]⟩
  case round =>
    obtain ⟨k, c1, c2, A1, A2, lf, hk, rfl, rfl, rfl, rfl, hO1, hO2, hap, hE, hlf⟩ := hrel
    by_cases hlt : k < n
    · obtain ⟨b, o, x, rfl, hb, hx, hwx, d0, d1, d2⟩ := (h.e hE).get hlt
      have hkI : (k : Int) < (n : Int) := by omega
      have hpx := possB_iff.1 (HP.out x (List.mem_of_getElem? hx))
      have hrk := HR.out k
      rw [hlf.out] at hrk
      have HS1 := Lib.hid (nums_succ hx)
      have HS2 := Lib.hid (show (firstK m l).take (k + 1) = (firstK m l).take k ++ [min lf x.2.2] by rw [firstK_succ hx, hlf.out])
      have HS3 := Lib.hid (show leftK m l (k + 1) = lf - min lf x.2.2 by rw [(firstK_get hx).2, hlf.out])
      have hwl := hE.le
      have hm1 := HB.out.2
      obtain ⟨kv, hkv⟩ : ∃ kv, min lf x.2.2 = kv := ⟨_, rfl⟩
      rw [hkv] at HS2 HS3
      have HMIN := Lib.hid hkv
      have hkr : 0 ≤ kv ∧ kv ≤ lf := by omega
      have HIF := Lib.hid (show (if x.2.2 < lf then x.2.2 else lf) = kv by split <;> omega)
      have hwr : IntKind.i64.wrap (lf - kv) = lf - kv := by rw [IntKind.wrap_i64]; omega
      have hwkv : (Lit.int .i64 kv).wf = true := wf_of_i64 (by omega) (by omega)
      have hk1 : k ≤ 1099511627776 := by omega
      have HAll := Lib.hid (And.intro hkr hrk)
      clear hx hkv hkr hrk hpx hm1
      obtain ⟨f, a, q⟩ := x
      obtain ⟨w1, w2, w3⟩ := hwx
      simp only at d0 d1 d2 HS1 HS2 HS3 HIF HMIN w3
      go_upto_region 7 with (at_builtin; refine wpList_app1n intTk _ rfl _ _ rfl _ _ _ _ _ rfl hO1 _ rfl w3 hk1 hwl ?_; intro g1 e1 wa hO1a hGa hBa hora)
      have hO2a := hO2.keptA hGa hap.symm
      have hapa : apartS A2 (some ⟨g1, 0, none⟩) := apart_grow hap.symm (fun b hb => (hO2.ltN b hb).2) hora
      have hEa : E w wa := hE.up hBa
      have hda : wa.cell? ⟨b, o + k * 3 + 2, none⟩ = some (.int .i64 q) := by
        have hbw : b < w.heap.size ∨ w.heap.size ≤ b := by omega
        obtain ⟨b', o', x', e', hb', hx', _, _, _, d2'⟩ := (h.e hEa).get hlt
        injection e' with e'; injection e' with e1' e2'; subst e1' e2'
        obtain ⟨b'', o'', x'', e'', hb'', hx'', _, _, _, d2''⟩ := (h.e hE).get hlt
        injection e'' with e''; injection e'' with e1'' e2''; subst e1'' e2''
        rw [hx'] at hx''
        injection hx'' with hx''
        subst hx''
        rw [d2'] 
        rw [d2''] at d2
        exact d2
      have hwla := hEa.le
      clear hO1 hO2 hap d0 d1 d2 hGa hBa hora
      go_upto_region 8 with fail
      first | rw [HMIN.out] | rw [HIF.out]
      go_wp2_with (at_builtin; refine wpList_app1n intTk _ rfl _ _ rfl _ _ _ _ _ rfl hO2a _ rfl hwkv hk1 hwla ?_; intro g2 e2 wb hO2b hGb hBb horb)
      have hO1b := hO1a.keptA hGb hapa.symm
      have hapb : apartS (some ⟨g1, 0, none⟩) (some ⟨g2, 0, none⟩) := apart_grow hapa.symm (fun b hb => (hO1a.ltN b hb).2) horb
      rw [← HS1.out] at hO1b
      rw [← HS2.out] at hO2b
      go_roundw
      case rel => exact ⟨k + 1, e1, e2, _, _, lf - kv, by omega, by go_num, rfl, rfl, rfl, hO1b, hO2b, hapb, hEa.up hBb, HS3.out⟩
      case measure => simp [intOf]; omega
    · have hnk : k = n := by omega
      have hO1f : Own .i64 3 wr w.heap.size A1 k c1 (nums l) := by rw [List.take_of_length_le (by rw [HL.out]; omega)] at hO1; exact hO1
      have hO2f : Own .i64 3 wr w.heap.size A2 k c2 (firstK m l) := by rw [List.take_of_length_le (by rw [firstK_len, HL.out]; omega)] at hO2; exact hO2
      clear hO1 hO2
      by_cases hmx : mixed = true ∧ 0 < m
      · obtain ⟨rfl, hh⟩ := hmx
        obtain ⟨hr1, hr2⟩ := HFF.out.1 rfl hh
        have HS := Lib.hid (refSplit_c m A1 k c1 (nums l) wr hO1f.reads (by omega))
        rw [hr2] at HS
        have HR1 := Lib.hid hr1
        have dh : decide (0 < m) = true := by simpa using hh
        have hle := hE.le
        clear hr1 hr2 hh hnk hO1f hO2f
        go_wp2_with fail
        refine HS.out.mono ?_
        rintro e wa ⟨Ap, np, cp, rfl, hOp, hEa⟩
        go_wp2_with fail
        go_ret
        exact RetOwn.mk_ HR1.out (Own.rebase hOp hle) (hE.trans hEa)
      · have HR1 := Lib.hid (HFF.out.2 hmx)
        cases mixed
        · clear hmx hnk
          go_wp2_with fail
          go_ret
          exact RetOwn.mk_ HR1.out hO2f hE
        · have dh : decide (0 < m) = false := by
            simp only [decide_eq_false_iff_not]; intro hh; exact hmx ⟨rfl, hh⟩
          clear hmx hnk
          go_wp2_with fail
          go_ret
          exact RetOwn.mk_ HR1.out hO2f hE
end Go.Proofs.Ytgbamgijpgjmgaa
/- The model's Take. -/
namespace Go.Proofs.Ytgbamgijpgjmgaa
open Go.RowKit Go.Shelf

theorem countK_len {l : List Lt} {m : Int} {mixed : Bool} : (countK l m mixed).length = l.length := by
  unfold countK
  split
  · rw [splitL_len, nums_len]
  · rw [firstK_len]
theorem countK_range {l : List Lt} {m : Int} {mixed : Bool} (hv : validB l = true) (h0 : 0 ≤ m) (h1 : m ≤ 1099511627776) (ht : m ≤ totL l) : ∀ (i : Nat) (x : Lt) (k : Int), l[i]? = some x → (countK l m mixed)[i]? = some k → 0 ≤ k ∧ k ≤ x.2.2 := by
  obtain ⟨v1, v2⟩ := validB_iff.1 hv
  unfold countK
  split
  · rename_i hh
    exact split_range (split_pre v2 v1 hh.2 h1 ht) ht
  · exact firstK_range h0 (pos_of v2)
theorem pcs_sel_t {l : List Lt} {ks : List Int} {i : Nat} {x : Lt} {k : Int} (hx : l[i]? = some x) (hk : ks[i]? = some k) : putL [] (sel true (pcs (l.take (i + 1)) (ks.take (i + 1)))) = addL (putL [] (sel true (pcs (l.take i) (ks.take i)))) (x.1, x.2.1, k) := by
  rw [pcs_take hx hk, show true = !false from rfl, sel_miss false, show (!false) = true from rfl, sel_hit]
theorem pcs_sel_f {l : List Lt} {ks : List Int} {i : Nat} {x : Lt} {k : Int} (hx : l[i]? = some x) (hk : ks[i]? = some k) : putL [] (sel false (pcs (l.take (i + 1)) (ks.take (i + 1)))) = addL (putL [] (sel false (pcs (l.take i) (ks.take i)))) (x.1, x.2.1 + k, x.2.2 - k) := by
  rw [pcs_take hx hk, sel_hit, show false = !true from rfl, sel_miss true]
theorem refAdd_v (v : Value) (x : Lt) (hvx : v = ltV x) (A : Option Addr) (n c : Nat) (l : List Lt) (w : World) (h : LotsAt w A n c l) (hl : ∀ y ∈ l, possB y = true) (hx : x.2.2 ≠ 0 → possB x = true) (hxw : WfL x) (hn : n ≤ 1000000) :
    Calls Try.prog 54 #[.slice A n c, v] w (RetL w (addL l x)) := by subst hvx; exact refAdd_c x A n c l w h hl hx hxw hn

set_option maxHeartbeats 16000000 in
set_option maxRecDepth 100000 in
theorem refTake_yes (m : Int) (mixed : Bool) (A : Option Addr) (n c : Nat) (l : List Lt) (w : World) (h : LotsAt w A n c l) (hv : validB l = true) (h0 : 0 ≤ m) (h1 : m ≤ 1099511627776) (ht : m ≤ totL l) :
    Calls Try.prog 17 #[.slice A n c, .int .i64 m, .bool mixed] w (RetTk w (takeS l m mixed)) := by
  have HV := Lib.hid (refValid_c A n c l w h)
  have HT := Lib.hid (fun W (hE : E w W) => refTotal_c A n c l W (h.e hE))
  have htot : totalS l = totL l := by rw [totalS, hv]; rfl
  have HC := Lib.hid (fun W (hE : E w W) => refCounts_c m mixed A n c l W (h.e hE) hv h0 h1 ht)
  have HF := Lib.hid (takeS_yes (mixed := mixed) hv h0 h1 ht)
  have HR := Lib.hid (countK_range (mixed := mixed) hv h0 h1 ht)
  have HKL := Lib.hid (countK_len (l := l) (m := m) (mixed := mixed))
  obtain ⟨v1, v2⟩ := validB_iff.1 hv
  have hn : n ≤ 4096 := by rw [← h.len]; exact v1
  have hm63 := h.n63
  have HL := Lib.hid h.len
  have HP := Lib.hid v2
  rw [hv] at HV
  rw [htot] at HT
  generalize takeS l m mixed = r at *
  generalize countK l m mixed = ks at *
  generalize totL l = T at *
  have da : decide (m < 0) = false := by simpa using h0
  have db : decide (1099511627776 < m) = false := by simpa using h1
  have dT : decide (T < m) = false := by simpa using ht
  clear hv htot v1 v2 h0 h1 ht
  go_enter Try.func17, Try.ntmps17
  go_wp2_with fail
  refine HV.out.mono ?_
  rintro e w2 ⟨rfl, hE2⟩
  go_wp2_with fail
  refine (HT.out _ hE2).mono ?_
  rintro e w3 ⟨rfl, hE3⟩
  have hE23 := hE2.trans hE3
  go_wp2_with fail
  refine (HC.out _ hE23).mono ?_
  rintro e w4 ⟨Ak, nk, ck, rfl, hOk, hE4⟩
  have hE24 := hE23.trans hE4
  have hNk := hOk.reads
  have hnk : nk = n := by rw [← hNk.len, HKL.out, HL.out]
  subst hnk
  clear hE2 hE3 hE23 hE4 hOk
  go_wp2_with fail
  go_loopw [11, 12, 13] (fun t1 t2 ti wr => ∃ (k n1 c1 n2 c2 : Nat) (A1 A2 : Option Addr), k ≤ nk ∧ ti = .int .i64 k ∧ t1 = .slice A1 n1 c1 ∧ t2 = .slice A2 n2 c2 ∧ OwnL wr w.heap.size A1 n1 c1 (putL [] (sel true (pcs (l.take k) (ks.take k)))) ∧ OwnL wr w.heap.size A2 n2 c2 (putL [] (sel false (pcs (l.take k) (ks.take k)))) ∧
    E w4 wr ∧ Hid (∀ y ∈ putL [] (sel true (pcs (l.take k) (ks.take k))), possB y = true) ∧ Hid (∀ y ∈ putL [] (sel false (pcs (l.take k) (ks.take k))), possB y = true)) (fun _ _ ti _ => nk - (intOf ti).toNat)
  case atStart => exact ⟨0, 0, 0, 0, 0, none, none, Nat.zero_le _, rfl, rfl, rfl, OwnL.nil _ _, OwnL.nil _ _, E.refl _, show ∀ y ∈ _, _ by simp [pcs, sel, putL], show ∀ y ∈ _, _ by simp [pcs, sel, putL]⟩
  case round =>
    obtain ⟨k, n1, c1, n2, c2, A1, A2, hk, rfl, rfl, rfl, hO1, hO2, hE4r, hp1, hp2⟩ := hrel
    have hE := hE24.trans hE4r
    by_cases hlt : k < nk
    · obtain ⟨b, o, x, rfl, hb, hx, hwx, d0, d1, d2⟩ := (h.e hE).get hlt
      obtain ⟨bk, ok, kv, rfl, hbk, hkx, hwk, dk⟩ := (hNk.e hE4r).get hlt
      have hkI : (k : Int) < (nk : Int) := by omega
      have hkr := HR.out k x kv hx hkx
      have hpx := possB_iff.1 (HP.out x (List.mem_of_getElem? hx))
      have HS1 := Lib.hid (pcs_sel_t hx hkx)
      have HS2 := Lib.hid (pcs_sel_f hx hkx)
      obtain ⟨x1, x2⟩ := wf_i64 hwx.1
      have hl1 : n1 ≤ 1000000 := by
        have h1 := hO1.1
        have h2 := sel_len true (pcs (l.take k) (ks.take k))
        have h3 := pcs_len (l.take k) (ks.take k)
        rw [List.length_take] at h3; omega
      have hl2 : n2 ≤ 1000000 := by
        have h1 := hO2.1
        have h2 := sel_len false (pcs (l.take k) (ks.take k))
        have h3 := pcs_len (l.take k) (ks.take k)
        rw [List.length_take] at h3; omega
      have hq1 : (x.1, x.2.1, kv).2.2 ≠ 0 → possB (x.1, x.2.1, kv) = true := fun hh => possB_iff.2 (by simp only at hh ⊢; omega)
      have hq2 : (x.1, x.2.1 + kv, x.2.2 - kv).2.2 ≠ 0 → possB (x.1, x.2.1 + kv, x.2.2 - kv) = true := fun hh => possB_iff.2 (by simp only at hh ⊢; omega)
      have hw1 : WfL (x.1, x.2.1, kv) := ⟨hwx.1, hwx.2.1, hwk⟩
      have hw2 : WfL (x.1, x.2.1 + kv, x.2.2 - kv) := ⟨hwx.1, wf_of_i64 (by simp only; omega) (by simp only; omega), wf_of_i64 (by simp only; omega) (by simp only; omega)⟩
      have HA1 := Lib.hid (fun W (hW : E wr W) => refAdd_v (.agg #[.int .i64 x.1, .int .i64 x.2.1, .int .i64 kv]) (x.1, x.2.1, kv) rfl A1 n1 c1 _ W (hO1.reads.e hW) hp1.out hq1 hw1 hl1)
      have HA2 := Lib.hid (fun W (hW : E wr W) => refAdd_v (.agg #[.int .i64 x.1, .int .i64 (x.2.1 + kv), .int .i64 (x.2.2 - kv)]) (x.1, x.2.1 + kv, x.2.2 - kv) rfl A2 n2 c2 _ W (hO2.reads.e hW) hp2.out hq2 hw2 hl2)
      have hwr1 : IntKind.i64.wrap (x.2.1 + kv) = x.2.1 + kv := by rw [IntKind.wrap_i64]; omega
      have hwr2 : IntKind.i64.wrap (x.2.2 - kv) = x.2.2 - kv := by rw [IntKind.wrap_i64]; omega
      have HPA := Lib.hid (And.intro (poss_add hp1.out hq1) (poss_add hp2.out hq2))
      have hwl := hE.le
      have HAt := Lib.hid (And.intro h hNk)
      clear hx hkx hkr hpx x1 x2 hq1 hq2 hw1 hw2 hwx hwk hO1 hO2 hp1 hp2
      obtain ⟨f, a, q⟩ := x
      simp only at d0 d1 d2 HS1 HS2 HPA hwr1 hwr2
      go_wp2_with fail
      go_region_held3 (fun w' => wr.heap.size ≤ w'.heap.size ∧ ∀ b o, b < wr.heap.size → w'.cell? ⟨b, o, none⟩ = wr.cell? ⟨b, o, none⟩) (first | exact keepE ((E.refl _).drew) | exact keepE hEa)
        (first | (go_at_call 54; refine (HA1.out _ ((E.refl wr).drew)).mono ?_; rintro e wa ⟨A3, n3, c3, rfl, hO3, hE3⟩; have hEa := ((E.refl wr).drew).trans hE3))
      rename_i hHd
      clear hHd
      have f0 : wa.cell? ⟨b, o + k * 3, none⟩ = some (.int .i64 f) := (hEa.cell (p := ⟨b, _, none⟩) hb).trans d0
      have f1 : wa.cell? ⟨b, o + k * 3 + 1, none⟩ = some (.int .i64 a) := (hEa.cell (p := ⟨b, _, none⟩) hb).trans d1
      have f2 : wa.cell? ⟨b, o + k * 3 + 2, none⟩ = some (.int .i64 q) := (hEa.cell (p := ⟨b, _, none⟩) hb).trans d2
      have fk : wa.cell? ⟨bk, ok + k, none⟩ = some (.int .i64 kv) := (hEa.cell (p := ⟨bk, _, none⟩) hbk).trans dk
      have hba : b < wa.heap.size := Nat.lt_of_lt_of_le hb hEa.le
      have hbka : bk < wa.heap.size := Nat.lt_of_lt_of_le hbk hEa.le
      have HO3 := Lib.hid hO3
      have HEA := Lib.hid hEa
      clear d0 d1 d2 dk hO3 hE3 hb hbk HA1
      go_wp2_with fail
      go_region_held3 (fun w' => wa.heap.size ≤ w'.heap.size ∧ ∀ b o, b < wa.heap.size → w'.cell? ⟨b, o, none⟩ = wa.cell? ⟨b, o, none⟩) (first | exact keepE ((E.refl _).drew) | exact keepE hEb)
        (first | (go_at_call 54; refine (HA2.out _ (HEA.out.trans ((E.refl wa).drew))).mono ?_; rintro e wb ⟨A5, n5, c5, rfl, hO5, hE5⟩; have hEb := ((E.refl wa).drew).trans hE5))
      rename_i hHd
      clear hHd
      have HO5 := Lib.hid hO5
      clear hO5 hE5 f0 f1 f2 fk
      have hlea : w.heap.size ≤ wa.heap.size := Nat.le_trans hwl HEA.out.le
      have hG3 : OwnL wb w.heap.size A3 n3 c3 (putL [] (sel true (pcs (l.take (k + 1)) (ks.take (k + 1))))) := by rw [HS1.out]; exact (HO3.out.e hEb).rebase hwl
      have hG5 : OwnL wb w.heap.size A5 n5 c5 (putL [] (sel false (pcs (l.take (k + 1)) (ks.take (k + 1))))) := by rw [HS2.out]; exact HO5.out.rebase hlea
      have HP1 := Lib.hid (show ∀ y ∈ putL [] (sel true (pcs (l.take (k + 1)) (ks.take (k + 1)))), possB y = true by rw [HS1.out]; exact HPA.out.1)
      have HP2 := Lib.hid (show ∀ y ∈ putL [] (sel false (pcs (l.take (k + 1)) (ks.take (k + 1)))), possB y = true by rw [HS2.out]; exact HPA.out.2)
      have hE4b := hE4r.trans (HEA.out.trans hEb)
      go_wp2_with fail
      first
        | (go_roundw
           case rel => exact ⟨k + 1, n3, c3, n5, c5, A3, A5, by omega, by go_num, rfl, rfl, hG3, hG5, hE4b, HP1.out, HP2.out⟩
           case measure => simp [intOf]; omega)
        | exact ⟨⟨k + 1, n3, c3, n5, c5, A3, A5, by omega, by go_num, rfl, rfl, hG3, hG5, hE4b, HP1.out, HP2.out⟩, by simp [intOf]; omega⟩
    · have hf1 : OwnL wr w.heap.size A1 n1 c1 (putL [] (sel true (pcs l ks))) := by
        rw [List.take_of_length_le (by rw [HL.out]; omega), List.take_of_length_le (by rw [HKL.out, HL.out]; omega)] at hO1; exact hO1
      have hf2 : OwnL wr w.heap.size A2 n2 c2 (putL [] (sel false (pcs l ks))) := by
        rw [List.take_of_length_le (by rw [HL.out]; omega), List.take_of_length_le (by rw [HKL.out, HL.out]; omega)] at hO2; exact hO2
      clear hO1 hO2
      go_wp2_with fail
      go_ret3
      exact RetTk.mk_ HF.out hf1 hf2 hE
end Go.Proofs.Ytgbamgijpgjmgaa
/- The model's Take, whatever it is given; what the model's Slice reckons. -/
namespace Go.Proofs.Ytgbamgijpgjmgaa
open Go.RowKit Go.Shelf

set_option maxHeartbeats 8000000 in
set_option maxRecDepth 100000 in
/-- the ways out of the model's Take by an error -/
theorem refTake_no (m : Int) (mixed : Bool) (A : Option Addr) (n c : Nat) (l : List Lt) (w : World) (h : LotsAt w A n c l) (hno : validB l = false ∨ m < 0 ∨ 1099511627776 < m ∨ totL l < m) :
    Calls Try.prog 17 #[.slice A n c, .int .i64 m, .bool mixed] w (RetTk w (takeS l m mixed)) := by
  have HV := Lib.hid (refValid_c A n c l w h)
  have HT := Lib.hid (fun W (hE : E w W) => refTotal_c A n c l W (h.e hE))
  cases hv : validB l
  · rw [hv] at HV
    have HF := Lib.hid (show takeS l m mixed = ([], [], 1) by rw [takeS, if_pos (.inl hv)])
    generalize takeS l m mixed = r at *
    clear hv hno
    go_enter Try.func17, Try.ntmps17
    go_wp2_with fail
    refine HV.out.mono ?_
    rintro e w2 ⟨rfl, hE2⟩
    go_wp2_with fail
    go_ret3
    exact RetTk.none_ HF.out hE2
  · rw [hv] at HV
    by_cases ha : m < 0
    · have HF := Lib.hid (show takeS l m mixed = ([], [], 1) by rw [takeS, if_pos (.inr (.inl ha))])
      generalize takeS l m mixed = r at *
      have da : decide (m < 0) = true := by simpa using ha
      clear hv hno
      go_enter Try.func17, Try.ntmps17
      go_wp2_with fail
      refine HV.out.mono ?_
      rintro e w2 ⟨rfl, hE2⟩
      go_wp2_with fail
      go_ret3
      exact RetTk.none_ HF.out hE2
    · have da : decide (m < 0) = false := by simpa using ha
      by_cases hb : 1099511627776 < m
      · have HF := Lib.hid (show takeS l m mixed = ([], [], 1) by rw [takeS, if_pos (.inr (.inr hb))])
        generalize takeS l m mixed = r at *
        have db : decide (1099511627776 < m) = true := by simpa using hb
        clear hv hno
        go_enter Try.func17, Try.ntmps17
        go_wp2_with fail
        refine HV.out.mono ?_
        rintro e w2 ⟨rfl, hE2⟩
        go_wp2_with fail
        go_ret3
        exact RetTk.none_ HF.out hE2
      · have db : decide (1099511627776 < m) = false := by simpa using hb
        have htm : totL l < m := by
          rcases hno with h | h | h | h
          · rw [hv] at h; cases h
          · exact absurd h ha
          · exact absurd h hb
          · exact h
        have HF := Lib.hid (show takeS l m mixed = ([], [], 10) by
          rw [takeS, if_neg (by rw [hv]; rintro (h1 | h1 | h1) <;> first | exact ha h1 | exact hb h1 | cases h1), if_pos htm])
        have htot : totalS l = totL l := by rw [totalS, hv]; rfl
        rw [htot] at HT
        generalize takeS l m mixed = r at *
        generalize totL l = T at *
        have dT : decide (T < m) = true := by simpa using htm
        clear hv hno htot
        go_enter Try.func17, Try.ntmps17
        go_wp2_with fail
        refine HV.out.mono ?_
        rintro e w2 ⟨rfl, hE2⟩
        go_wp2_with fail
        refine (HT.out _ hE2).mono ?_
        rintro e w3 ⟨rfl, hE3⟩
        go_wp2_with fail
        go_ret3
        exact RetTk.none_ HF.out (hE2.trans hE3)
theorem refTake_c (m : Int) (mixed : Bool) (A : Option Addr) (n c : Nat) (l : List Lt) (w : World) (h : LotsAt w A n c l) :
    Calls Try.prog 17 #[.slice A n c, .int .i64 m, .bool mixed] w (RetTk w (takeS l m mixed)) := by
  by_cases hno : validB l = false ∨ m < 0 ∨ 1099511627776 < m ∨ totL l < m
  · exact refTake_no m mixed A n c l w h hno
  · have hv : validB l = true := by
      cases hv : validB l with
      | false => exact absurd (.inl hv) hno
      | true => rfl
    exact refTake_yes m mixed A n c l w h hv (by omega) (by omega) (by omega)

/-! the model's Slice -/
theorem units_part {f a n i j : Int} (h0 : 0 ≤ i) (h1 : i ≤ j) (h2 : j ≤ n) : ((ul (f, a, n)).drop i.toNat).take (j - i).toNat = ul (f, a + i, j - i) := by
  have e1 : ul (f, a, n) = ul (f, a, i) ++ ul (f, a + i, n - i) := ul_cut h0 (by omega)
  have e2 : ul (f, a + i, n - i) = ul (f, a + i, j - i) ++ ul (f, a + i + (j - i), n - i - (j - i)) := ul_cut (by omega) (by omega)
  have l1 := ul_len (f, a, i)
  have l2 := ul_len (f, a + i, j - i)
  simp only at l1 l2
  rw [e1, List.drop_append_of_le_length (by omega), show (ul (f, a, i)).drop i.toNat = [] from List.drop_eq_nil_of_le (by omega), List.nil_append, e2, List.take_append_of_le_length (by omega), List.take_of_length_le (by omega)]
/-- the units from position a on, b of them, among those of l that begin at place p -/
def partU (l : List Lt) (p a b : Int) : List Un := ((U l).drop (a - p).toNat).take (b - max a p).toNat
theorem partU_cons {x : Lt} {l : List Lt} {p a b : Int} (hx : 1 ≤ x.2.2) : partU (x :: l) p a b = (if max a p < min b (p + x.2.2) then ul (x.1, x.2.1 + (max a p - p), min b (p + x.2.2) - max a p) else []) ++ partU l (p + x.2.2) a b := by
  have hl := ul_len x
  unfold partU
  rw [U_cons, List.drop_append, List.take_append]
  have e1 : (a - p).toNat - (ul x).length = (a - (p + x.2.2)).toNat := by omega
  rw [e1]
  by_cases h1 : p + x.2.2 ≤ a
  · rw [if_neg (by omega), show (ul x).drop (a - p).toNat = [] from List.drop_eq_nil_of_le (by omega)]
    simp only [List.take_nil, List.nil_append, List.length_nil, Nat.sub_zero]
    congr 2
    omega
  · have e2 : (a - (p + x.2.2)).toNat = 0 := by omega
    have e3 : ((ul x).drop (a - p).toNat).length = (x.2.2 - (max a p - p)).toNat := by rw [List.length_drop]; omega
    rw [e2, List.drop_zero]
    have hd : (a - p).toNat = (max a p - p).toNat := by omega
    by_cases h2 : b ≤ max a p
    · rw [if_neg (by omega), show (b - max a p).toNat = 0 by omega, show (b - max a (p + x.2.2)).toNat = 0 by omega]
      simp
    · rw [if_pos (by omega)]
      by_cases h3 : b ≤ p + x.2.2
      · have hm : min b (p + x.2.2) = b := by omega
        have := units_part (f := x.1) (a := x.2.1) (n := x.2.2) (i := max a p - p) (j := b - p) (by omega) (by omega) (by omega)
        rw [show b - p - (max a p - p) = b - max a p by omega] at this
        have this : ((ul x).drop (max a p - p).toNat).take (b - max a p).toNat = ul (x.1, x.2.1 + (max a p - p), b - max a p) := this
        rw [hm, hd, this, show (b - max a p).toNat - ((ul x).drop (max a p - p).toNat).length = 0 by rw [← hd, e3]; omega, show (b - max a (p + x.2.2)).toNat = 0 by omega]
      · have hm : min b (p + x.2.2) = p + x.2.2 := by omega
        have := units_part (f := x.1) (a := x.2.1) (n := x.2.2) (i := max a p - p) (j := x.2.2) (by omega) (by omega) (by omega)
        have this : ((ul x).drop (max a p - p).toNat).take (x.2.2 - (max a p - p)).toNat = ul (x.1, x.2.1 + (max a p - p), x.2.2 - (max a p - p)) := this
        have hfull : ((ul x).drop (max a p - p).toNat).take (b - max a p).toNat = (ul x).drop (max a p - p).toNat := List.take_of_length_le (by rw [← hd, e3]; omega)
        have hfull2 : ((ul x).drop (max a p - p).toNat).take (x.2.2 - (max a p - p)).toNat = (ul x).drop (max a p - p).toNat := List.take_of_length_le (by rw [← hd, e3]; omega)
        rw [hm, hd, hfull, ← hfull2, this, show p + x.2.2 - max a p = x.2.2 - (max a p - p) by omega]
        have l3 := ul_len (x.1, x.2.1 + (max a p - p), x.2.2 - (max a p - p))
        simp only at l3
        congr 2
        omega
theorem partU_all (l : List Lt) {a n : Int} (h0 : 0 ≤ a) : partU l 0 a (a + n) = ((U l).drop a.toNat).take n.toNat := by
  unfold partU
  rw [show (a - 0).toNat = a.toNat by omega, show (a + n - max a 0).toNat = n.toNat by omega]
theorem totL_take_succ {l : List Lt} {k : Nat} {x : Lt} (h : l[k]? = some x) : totL (l.take (k + 1)) = totL (l.take k) + x.2.2 := totL_succ h
/-- what is put behind the result at lot k -/
theorem partU_drop {l : List Lt} {k : Nat} {x : Lt} {p a b : Int} (h : l[k]? = some x) (hx : 1 ≤ x.2.2) : partU (l.drop k) p a b = (if max a p < min b (p + x.2.2) then ul (x.1, x.2.1 + (max a p - p), min b (p + x.2.2) - max a p) else []) ++ partU (l.drop (k + 1)) (p + x.2.2) a b := by
  rw [drop_at h, partU_cons hx]
set_option maxHeartbeats 16000000 in
set_option maxRecDepth 100000 in
theorem refSlice_yes (at_ m : Int) (A : Option Addr) (n c : Nat) (l : List Lt) (w : World) (h : LotsAt w A n c l) (hv : validB l = true) (h0 : 0 ≤ at_) (h1 : 0 ≤ m) (h2 : at_ ≤ totL l) (h3 : m ≤ totL l - at_) :
    Calls Try.prog 21 #[.slice A n c, .int .i64 at_, .int .i64 m] w (RetLE w (sliceS l at_ m)) := by
  have HV := Lib.hid (refValid_c A n c l w h)
  have HT := Lib.hid (fun W (hE : E w W) => refTotal_c A n c l W (h.e hE))
  have htot : totalS l = totL l := by rw [totalS, hv]; rfl
  have HF := Lib.hid (show sliceS l at_ m = (glue (partU l 0 at_ (at_ + m)), 0) by
    rw [sliceS, if_neg (by rw [hv]; rintro (h | h | h) <;> first | omega | cases h), if_neg (by omega), partU_all l h0])
  obtain ⟨v1, v2⟩ := validB_iff.1 hv
  have hn : n ≤ 4096 := by rw [← h.len]; exact v1
  have hm63 := h.n63
  have hTb := totL_le v2
  have HTk := Lib.hid (fun k => totL_take_le v2 k)
  have HL := Lib.hid h.len
  have HP := Lib.hid v2
  have HG := Lib.hid (glue_poss (us := partU l 0 at_ (at_ + m)) (fun u hu => U_range v2 u (List.mem_of_mem_drop (List.mem_of_mem_take hu))))
  rw [hv] at HV
  rw [htot] at HT
  have hT1 : totL l ≤ 4503599627370496 := by have := hTb.2; omega
  generalize sliceS l at_ m = r at *
  generalize totL l = T at *
  have da : decide (at_ < 0) = false := by simpa using h0
  have db : decide (m < 0) = false := by simpa using h1
  have dT : decide (T < at_) = false := by simpa using h2
  have dm : decide (T - at_ < m) = false := by simpa using h3
  have hwr : IntKind.i64.wrap (T - at_) = T - at_ := by rw [IntKind.wrap_i64]; omega
  have hwb : IntKind.i64.wrap (at_ + m) = at_ + m := by rw [IntKind.wrap_i64]; omega
  have HB := Lib.hid (show 0 ≤ at_ ∧ 0 ≤ m ∧ at_ + m ≤ 4503599627370496 by omega)
  clear hv htot v1 v2 h0 h1 h2 h3 hTb hT1
  go_enter Try.func21, Try.ntmps21
  go_wp2_with fail
  refine HV.out.mono ?_
  rintro e w2 ⟨rfl, hE2⟩
  go_wp2_with fail
  refine (HT.out _ hE2).mono ?_
  rintro e w3 ⟨rfl, hE3⟩
  have hE23 := hE2.trans hE3
  clear hE2 hE3
  obtain ⟨B, hBe⟩ : ∃ B, at_ + m = B := ⟨_, rfl⟩
  rw [hBe] at hwb HF HG HB
  go_wp2_with fail
  go_loopw [10, 11, 12] (fun t0 tp ti wr => ∃ (k n1 c1 : Nat) (A1 : Option Addr) (p : Int) (us : List Un), k ≤ n ∧ ti = .int .i64 k ∧ t0 = .slice A1 n1 c1 ∧ tp = .int .i64 p ∧ OwnL wr w.heap.size A1 n1 c1 (glue us) ∧ n1 ≤ k ∧ E w wr ∧ 0 ≤ p ∧ p ≤ 1099511627776 * (k : Int) ∧ Hid (p = totL (l.take k)) ∧ Hid (us ++ partU (l.drop k) p at_ B = partU l 0 at_ B)) (fun _ _ ti _ => n - (intOf ti).toNat)
  case atStart => exact ⟨0, 0, 0, none, 0, [], Nat.zero_le _, rfl, rfl, rfl, OwnL.nil _ _, Nat.le_refl _, hE23, by omega, by omega, show _ = _ by simp [totL], show _ = _ by simp⟩
  case round =>
    obtain ⟨k, n1, c1, A1, p, us, hk, rfl, rfl, rfl, hO, hn1, hE, hp0, hp1, hpT, hus⟩ := hrel
    by_cases hlt : k < n
    · obtain ⟨b, o, x, rfl, hb, hx, hwx, d0, d1, d2⟩ := (h.e hE).get hlt
      have hkI : (k : Int) < (n : Int) := by omega
      have hpx := possB_iff.1 (HP.out x (List.mem_of_getElem? hx))
      have HPT := Lib.hid (show p + x.2.2 = totL (l.take (k + 1)) by rw [totL_succ hx, hpT.out])
      have hpd := partU_drop (p := p) (a := at_) (b := B) hx hpx.2.2.2.1
      have hgp : ∀ y ∈ glue us, possB y = true := glue_poss (fun u hu => U_range HP.out u (by
        have : u ∈ partU l 0 at_ B := by rw [← hus.out]; exact List.mem_append_left _ hu
        exact List.mem_of_mem_drop (List.mem_of_mem_take this)))
      obtain ⟨x1, x2⟩ := wf_i64 hwx.1
      have hB := HB.out
      have hwl := hE.le
      have hwr1 : IntKind.i64.wrap (p + x.2.2) = p + x.2.2 := by rw [IntKind.wrap_i64]; omega
      obtain ⟨fr, hfr⟩ : ∃ fr, max at_ p = fr := ⟨_, rfl⟩
      obtain ⟨te, hto⟩ : ∃ te, min B (p + x.2.2) = te := ⟨_, rfl⟩
      rw [hfr, hto] at hpd
      have HFR := Lib.hid hfr
      have HTO := Lib.hid hto
      have HIFa := Lib.hid (show (if at_ < p then p else at_) = fr by split <;> omega)
      have HIFb := Lib.hid (show (if p + x.2.2 < B then p + x.2.2 else B) = te by split <;> omega)
      have hfp : p ≤ fr ∧ at_ ≤ fr := by omega
      have htp : te ≤ B ∧ te ≤ p + x.2.2 := by omega
      clear hx hfr hto
      obtain ⟨f, a, q⟩ := x
      simp only at d0 d1 d2 HPT hpd hpx hwr1 HTO HIFb htp
      go_upto_region 13 with fail
      first | rw [HFR.out] | rw [HIFa.out]
      go_upto_region 14 with fail
      first | rw [HTO.out] | rw [HIFb.out]
      by_cases hlt2 : fr < te
      · have d2t : decide (fr < te) = true := by simpa using hlt2
        rw [if_pos hlt2] at hpd
        have hq : (f, a + (fr - p), te - fr).2.2 ≠ 0 → possB (f, a + (fr - p), te - fr) = true := fun _ => possB_iff.2 (by simp only; omega)
        have hw1 : WfL (f, a + (fr - p), te - fr) := ⟨hwx.1, wf_of_i64 (by simp only; omega) (by simp only; omega), wf_of_i64 (by simp only; omega) (by simp only; omega)⟩
        have hwr2 : IntKind.i64.wrap (a + fr) = a + fr := by rw [IntKind.wrap_i64]; omega
        have hwr3 : IntKind.i64.wrap (a + fr - p) = a + (fr - p) := by rw [IntKind.wrap_i64]; omega
        have hwr4 : IntKind.i64.wrap (te - fr) = te - fr := by rw [IntKind.wrap_i64]; omega
        have HA1 := Lib.hid (fun W (hW : E wr W) => refAdd_v (.agg #[.int .i64 f, .int .i64 (a + (fr - p)), .int .i64 (te - fr)]) (f, a + (fr - p), te - fr) rfl A1 n1 c1 _ W (hO.reads.e hW) hgp hq hw1 (by omega))
        have HADD := Lib.hid (show addL (glue us) (f, a + (fr - p), te - fr) = glue (us ++ ul (f, a + (fr - p), te - fr)) from add_glue (by simp only; omega))
        have HUS := Lib.hid (show (us ++ ul (f, a + (fr - p), te - fr)) ++ partU (l.drop (k + 1)) (p + q) at_ B = partU l 0 at_ B by rw [← hus.out, hpd, List.append_assoc])
        have hbnd : n1 + 1 ≤ k + 1 := by omega
        have HLen := Lib.hid (add_len (glue us) (f, a + (fr - p), te - fr))
        have hOl := hO.1
        clear hlt2 hq hw1 hpd hO
        go_wp2_with fail
        go_region_held3 (fun w' => wr.heap.size ≤ w'.heap.size ∧ ∀ b o, b < wr.heap.size → w'.cell? ⟨b, o, none⟩ = wr.cell? ⟨b, o, none⟩) (first | exact keepE ((E.refl _).drew) | exact keepE hEa)
          (first | (go_at_call 54; refine (HA1.out _ ((E.refl wr).drew)).mono ?_; rintro e wa ⟨A3, n3, c3, rfl, hO3, hE3⟩; have hEa := ((E.refl wr).drew).trans hE3))
        rename_i hHd
        clear hHd
        have f2 : wa.cell? ⟨b, o + k * 3 + 2, none⟩ = some (.int .i64 q) := (hEa.cell (p := ⟨b, _, none⟩) hb).trans d2
        have hba : b < wa.heap.size := Nat.lt_of_lt_of_le hb hEa.le
        have hG3 : OwnL wa w.heap.size A3 n3 c3 (glue (us ++ ul (f, a + (fr - p), te - fr))) := by rw [← HADD.out]; exact hO3.rebase hwl
        have hn3 : n3 ≤ k + 1 := by have h1 := hO3.1; have h2 := HLen.out; omega
        have hEwa := hE.trans hEa
        clear hO3 hE3 d0 d1 d2 hb HA1
        go_wp2_with fail
        first
          | exact ⟨⟨k + 1, n3, c3, A3, p + q, _, by omega, by go_num, rfl, rfl, hG3, hn3, hEwa, by omega, by omega, HPT.out, HUS.out⟩, by simp [intOf]; omega⟩
          | (go_roundw
             case rel => exact ⟨k + 1, n3, c3, A3, p + q, _, by omega, by go_num, rfl, rfl, hG3, hn3, hEwa, by omega, by omega, HPT.out, HUS.out⟩
             case measure => simp [intOf]; omega)
      · have d2t : decide (fr < te) = false := by simpa using hlt2
        rw [if_neg hlt2] at hpd
        have HUS := Lib.hid (show us ++ partU (l.drop (k + 1)) (p + q) at_ B = partU l 0 at_ B by rw [← hus.out, hpd, List.nil_append])
        clear hlt2 hpd
        go_wp2_with fail
        first
          | exact ⟨⟨k + 1, n1, c1, A1, p + q, us, by omega, by go_num, rfl, rfl, hO, by omega, hE, by omega, by omega, HPT.out, HUS.out⟩, by simp [intOf]; omega⟩
          | (go_roundw
             case rel => exact ⟨k + 1, n1, c1, A1, p + q, us, by omega, by go_num, rfl, rfl, hO, by omega, hE, by omega, by omega, HPT.out, HUS.out⟩
             case measure => simp [intOf]; omega)
    · have HF2 := Lib.hid (show glue us = glue (partU l 0 at_ B) by
        have := hus.out
        rw [List.drop_eq_nil_of_le (by rw [HL.out]; omega)] at this
        rw [← this]
        congr 1
        simp [partU, U_nil])
      rw [HF2.out] at hO
      go_wp2_with fail
      go_ret2
      exact RetLE.mk_ HF.out hO hE
end Go.Proofs.Ytgbamgijpgjmgaa
/- The model's Slice, whatever it is given. -/
namespace Go.Proofs.Ytgbamgijpgjmgaa
open Go.RowKit Go.Shelf

set_option maxHeartbeats 8000000 in
set_option maxRecDepth 100000 in
theorem refSlice_no (at_ m : Int) (A : Option Addr) (n c : Nat) (l : List Lt) (w : World) (h : LotsAt w A n c l) (ha1 : -9223372036854775808 ≤ at_) (ha2 : at_ ≤ 9223372036854775807) (hno : validB l = false ∨ at_ < 0 ∨ m < 0 ∨ totL l < at_ ∨ totL l - at_ < m) :
    Calls Try.prog 21 #[.slice A n c, .int .i64 at_, .int .i64 m] w (RetLE w (sliceS l at_ m)) := by
  have HV := Lib.hid (refValid_c A n c l w h)
  cases hv : validB l
  · rw [hv] at HV
    have HF := Lib.hid (show sliceS l at_ m = ([], 1) by rw [sliceS, if_pos (.inl hv)])
    clear hv hno
    go_enter Try.func21, Try.ntmps21
    go_wp2_with fail
    refine HV.out.mono ?_
    rintro e w2 ⟨rfl, hE2⟩
    go_wp2_with fail
    go_ret2
    exact RetLE.none_ HF.out hE2
  · rw [hv] at HV
    by_cases hab : at_ < 0 ∨ m < 0
    · have HF := Lib.hid (show sliceS l at_ m = ([], 1) by rw [sliceS, if_pos (.inr hab)])
      by_cases ha : at_ < 0
      · have da : decide (at_ < 0) = true := by simpa using ha
        clear hv hab hno
        go_enter Try.func21, Try.ntmps21
        go_wp2_with fail
        refine HV.out.mono ?_
        rintro e w2 ⟨rfl, hE2⟩
        go_wp2_with fail
        go_ret2
        exact RetLE.none_ HF.out hE2
      · have hm0 : m < 0 := by omega
        have da : decide (at_ < 0) = false := by simpa using ha
        have dm : decide (m < 0) = true := by simpa using hm0
        clear hv hab hno
        go_enter Try.func21, Try.ntmps21
        go_wp2_with fail
        refine HV.out.mono ?_
        rintro e w2 ⟨rfl, hE2⟩
        go_wp2_with fail
        go_ret2
        exact RetLE.none_ HF.out hE2
    · have ha0 : ¬ at_ < 0 := fun hh => hab (.inl hh)
      have hm0 : ¬ m < 0 := fun hh => hab (.inr hh)
      have da : decide (at_ < 0) = false := by simpa using ha0
      have dm : decide (m < 0) = false := by simpa using hm0
      obtain ⟨v1, v2⟩ := validB_iff.1 hv
      have hT := totL_le v2
      have htot : totalS l = totL l := by rw [totalS, hv]; rfl
      have HTot := Lib.hid (fun W (hE : E w W) => refTotal_c A n c l W (h.e hE))
      rw [htot] at HTot
      have hT1 : totL l ≤ 4503599627370496 := by omega
      have hT0 := hT.1
      have HNo : totL l < at_ ∨ totL l - at_ < m → sliceS l at_ m = ([], 5) := fun hh => by
        rw [sliceS, if_neg (by rw [hv]; rintro (h1 | h1 | h1) <;> first | exact ha0 h1 | exact hm0 h1 | cases h1), if_pos hh]
      have hno2 : totL l < at_ ∨ totL l - at_ < m := by
        rcases hno with h | h | h | h | h
        · rw [hv] at h; cases h
        · exact absurd h ha0
        · exact absurd h hm0
        · exact .inl h
        · exact .inr h
      clear hno
      generalize totL l = T at *
      clear hT htot v1 v2 hv hab
      have hwr : IntKind.i64.wrap (T - at_) = T - at_ := by rw [IntKind.wrap_i64]; omega
      by_cases hTa : T < at_
      · have HF := Lib.hid (HNo (.inl hTa))
        clear HNo hno2
        have dT : decide (T < at_) = true := by simpa using hTa
        go_enter Try.func21, Try.ntmps21
        go_wp2_with fail
        refine HV.out.mono ?_
        rintro e w2 ⟨rfl, hE2⟩
        go_wp2_with fail
        refine (HTot.out _ hE2).mono ?_
        rintro e w3 ⟨rfl, hE3⟩
        go_wp2_with fail
        go_ret2
        exact RetLE.none_ HF.out (hE2.trans hE3)
      · have dT : decide (T < at_) = false := by simpa using hTa
        have hTm : T - at_ < m := by
          rcases hno2 with h | h
          · exact absurd h hTa
          · exact h
        · have HF := Lib.hid (HNo (.inr hTm))
          clear HNo hno2
          have dm2 : decide (T - at_ < m) = true := by simpa using hTm
          go_enter Try.func21, Try.ntmps21
          go_wp2_with fail
          refine HV.out.mono ?_
          rintro e w2 ⟨rfl, hE2⟩
          go_wp2_with fail
          refine (HTot.out _ hE2).mono ?_
          rintro e w3 ⟨rfl, hE3⟩
          go_wp2_with fail
          go_ret2
          exact RetLE.none_ HF.out (hE2.trans hE3)
theorem refSlice_c (at_ m : Int) (A : Option Addr) (n c : Nat) (l : List Lt) (w : World) (h : LotsAt w A n c l) (ha1 : -9223372036854775808 ≤ at_) (ha2 : at_ ≤ 9223372036854775807) :
    Calls Try.prog 21 #[.slice A n c, .int .i64 at_, .int .i64 m] w (RetLE w (sliceS l at_ m)) := by
  by_cases hno : validB l = false ∨ at_ < 0 ∨ m < 0 ∨ totL l < at_ ∨ totL l - at_ < m
  · exact refSlice_no at_ m A n c l w h ha1 ha2 hno
  · have hv : validB l = true := by
      cases hv : validB l with
      | false => exact absurd (.inl hv) hno
      | true => rfl
    exact refSlice_yes at_ m A n c l w h hv (by omega) (by omega) (by omega) (by omega)
end Go.Proofs.Ytgbamgijpgjmgaa
