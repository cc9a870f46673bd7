
/- Contracts of the reference's Sum and Weights; the examples of the section. -/
import Derived.Test.YtbpfdogjjoceaaaS10
namespace Go.Proofs.Ytbpfdogjjoceaaa
open Go.RowKit

def RetT (w : World) (b : Bool) (e : Ending) (w' : World) : Prop := e = .returned (.bool b) ∧ E w w'

theorem ord1 : ordL [1, 1, 1] = [0, 1, 2] := List.mergeSort_of_pairwise (by decide)
theorem ord2 : ordL [2, 0, 5] = [2, 0, 1] := by
  show List.mergeSort [0, 1, 2] _ = _
  simp [List.mergeSort, List.MergeSort.Internal.splitInTwo, prec]
theorem ex1 : splitS 10 [1, 1, 1] = ([4, 3, 3], 0) := by
  have h : splitL 10 [1, 1, 1] = bump (quos 10 3 [1, 1, 1]) ((ordL [1, 1, 1]).take 1) := rfl
  have h2 : splitOk 10 [1, 1, 1] = true := by decide
  rw [splitS, if_pos h2, h, ord1]; rfl
theorem ex2 : splitS 10 [3, 0, 4] = ([4, 0, 6], 0) := by
  have h : splitL 10 [3, 0, 4] = bump (quos 10 7 [3, 0, 4]) ((ordL [2, 0, 5]).take 1) := rfl
  have h2 : splitOk 10 [3, 0, 4] = true := by decide
  rw [splitS, if_pos h2, h, ord2]; rfl

/-- a slice that was just written down -/
theorem nums_new (k : IntKind) (w : World) (l : List Int) (T : TypeId) (hl : l.length ≤ 1000) (hw : ∀ x ∈ l, (Lit.int k x).wf = true) : Nums k (w.alloc (.cells (l.map (Value.int k)).toArray T)) (some ⟨w.heap.size, 0, none⟩) l.length l.length l := by
  refine ⟨rfl, Nat.le_refl _, by unfold maxLen; omega, hw, fun _ => ⟨w.heap.size, 0, rfl, by simp, fun i hi => ?_⟩⟩
  rw [Nat.zero_add, cell_of_row _ w.heap.size i _ _ _ (heap_alloc_new w _)]
  simp [hi]

set_option maxHeartbeats 400000 in
theorem refSum_c (A : Option Addr) (n c : Nat) (l : List Int) (w : World) (h : Nums .i64 w A n c l) (hn : n ≤ 1048576) (hl : ∀ x ∈ l, 0 ≤ x ∧ x ≤ 1099511627777) :
    Calls Try.prog 65 #[.slice A n c] w fun e w' => e = .returned (.int .i64 l.sum) ∧ w = w' := by
  have hm := h.n63
  have HL := Lib.hid hl
  clear hl
  go_enter Try.func65, Try.ntmps65
  go_wp2
  go_loop [3, 4] (fun ts ti => ∃ (k : Nat) (s : Int), k ≤ n ∧ ti = .int .i64 k ∧ ts = .int .i64 s ∧ 0 ≤ s ∧ s ≤ 1099511627777 * (k : Int) ∧ Hid (s = (l.take k).sum)) (fun _ ti => n - (intOf ti).toNat)
  case atStart => exact ⟨0, 0, Nat.zero_le _, rfl, rfl, by omega, by omega, show _ = _ by simp⟩
  case round =>
    obtain ⟨k, s, hk, rfl, rfl, s0, s1, hS⟩ := hrel
    by_cases hlt : k < n
    · obtain ⟨b, o, x, rfl, hb, hx, hwx, hck⟩ := h.get hlt
      obtain ⟨x0, x1⟩ := HL.out x (List.mem_of_getElem? hx)
      have HS := Lib.hid (show s + x = (l.take (k + 1)).sum by
        obtain ⟨hk', rfl⟩ := List.getElem?_eq_some_iff.1 hx
        rw [List.take_succ_eq_append_getElem hk', List.sum_append, hS.out]; simp)
      clear hx hwx
      go_wp2
      go_round
      case rel => exact ⟨k + 1, s + x, by omega, by go_num, rfl, by omega, by omega, HS⟩
      case measure => simp [intOf]; omega
    · have HF := Lib.hid (show s = l.sum by rw [hS.out, List.take_of_length_le (by rw [h.len]; omega)])
      go_wp2
      go_ret
      exact ⟨ret_int HF.out, rfl⟩

def wgt (x : Int) : Int := if x % 1099511627777 % 3 = 0 then x % 1099511627777 / 3 % 5 else x % 1099511627777
def wgts (l : List Int) : List Int := (l.take 6).map wgt
def weightsL (l : List Int) : List Int := if (wgts l).sum = 0 then wgts l ++ [1] else wgts l
theorem wgt_range (x : Int) : 0 ≤ wgt x ∧ wgt x ≤ 1099511627776 := by unfold wgt; split <;> omega
theorem wgts_range {l : List Int} : ∀ x ∈ wgts l, 0 ≤ x ∧ x ≤ 1099511627776 := by
  intro x hx
  simp only [wgts, List.mem_map] at hx
  obtain ⟨y, _, rfl⟩ := hx
  exact wgt_range y
theorem wgts_len (l : List Int) : (wgts l).length = min 6 l.length := by simp [wgts]
theorem weightsL_len (l : List Int) : (weightsL l).length ≤ 7 := by
  unfold weightsL
  have := wgts_len l
  split
  · simp; omega
  · omega
theorem weightsL_range {l : List Int} : ∀ x ∈ weightsL l, 0 ≤ x ∧ x ≤ 1099511627776 := by
  intro x hx
  unfold weightsL at hx
  split at hx
  · rcases List.mem_append.1 hx with hx | hx
    · exact wgts_range x hx
    · simp at hx; omega
  · exact wgts_range x hx
theorem weightsL_sum (l : List Int) : 0 < (weightsL l).sum ∧ (weightsL l).sum ≤ 1152921504606846976 := by
  have h1 := sum_nonneg fun x hx => (weightsL_range (l := l) x hx).1
  have key : ∀ (l : List Int), (∀ x ∈ l, 0 ≤ x ∧ x ≤ 1099511627776) → l.sum ≤ 1099511627776 * (l.length : Int) := by
    intro l
    induction l with
    | nil => simp
    | cons a l ih =>
      intro h
      have := ih fun x hx => h x (by simp [hx])
      have := h a (by simp)
      rw [List.sum_cons, List.length_cons]; omega
  have h2 := key _ (weightsL_range (l := l))
  have h3 := weightsL_len l
  refine ⟨?_, by omega⟩
  unfold weightsL
  have h4 := sum_nonneg fun x hx => (wgts_range (l := l) x hx).1
  split
  · rw [List.sum_append]; simp; omega
  · omega
theorem weightsL_pre {t : Int} (h0 : 0 ≤ t) (h1 : t ≤ 1099511627776) (l : List Int) : SplitPre t (weightsL l) := ⟨h0, h1, weightsL_range, (weightsL_sum l).1, (weightsL_sum l).2⟩
theorem wgts_snoc {l : List Int} {k : Nat} {x : Int} (h : l[k]? = some x) : (l.take (k + 1)).map wgt = (l.take k).map wgt ++ [wgt x] := by
  obtain ⟨hk, rfl⟩ := List.getElem?_eq_some_iff.1 h
  rw [List.take_succ_eq_append_getElem hk, List.map_append]; rfl

set_option maxHeartbeats 1000000 in
theorem refWeights_c (A : Option Addr) (n c : Nat) (l : List Int) (w : World) (h : Nums .i64 w A n c l) :
    Calls Try.prog 43 #[.slice A n c] w (RetOwn .i64 3 w (weightsL l)) := by
  have hm := h.n63
  go_enter Try.func43, Try.ntmps43
  go_wp2
  go_loopw [3, 4] (fun tv ti wr => ∃ (k c' : Nat) (A' : Option Addr), k ≤ n ∧ k ≤ 6 ∧ ti = .int .i64 k ∧ tv = .slice A' k c' ∧ Own .i64 3 wr w.heap.size A' k c' ((l.take k).map wgt) ∧ E w wr) (fun _ ti _ => n - (intOf ti).toNat)
  case atStart => exact ⟨0, 0, none, Nat.zero_le _, by omega, rfl, rfl, by simpa using Own.nil _ _ _ _, E.refl _⟩
  case round =>
    obtain ⟨k, c', A', hk, hk6, rfl, rfl, hown, hE⟩ := hrel
    have hle := hE.le
    obtain ⟨wi, rfl⟩ : ∃ wo : World, wo = wr := ⟨_, rfl⟩
    by_cases hlt : k < n
    · by_cases h6 : k < 6
      · have h6I : (k : Int) < 6 := by omega
        obtain ⟨b, o, x, rfl, hb, hx, hwx, hck⟩ := (h.e hE).get hlt
        obtain ⟨x0, x1⟩ := wf_i64 hwx
        have HS := Lib.hid (wgts_snoc hx)
        obtain ⟨y, hy⟩ : ∃ y, x % 1099511627777 = y := ⟨_, rfl⟩
        have m0 : 0 ≤ y := by omega
        have m1 : y ≤ 1099511627776 := by omega
        clear hx hwx
        by_cases h3 : y % 3 = 0
        · have b3 : (y % 3 == 0) = true := by simpa using h3
          have HV := Lib.hid (show wgt x = y / 3 % 5 by rw [wgt, hy, if_pos h3])
          clear h3
          go_wp2_with (first
            | (go_at_call 13; refine (aroundR _ _ _ x0 x1 (by omega) (by omega)).mono ?_; rintro e w' ⟨rfl, rfl⟩)
            | (at_builtin; refine wpList_app1n intT3 _ rfl _ _ rfl _ _ _ _ _ rfl hown _ rfl (wf_of_i64 (by omega) (by omega)) (by omega) hle ?_; intro g' c2 w1 hO hG hB hor))
          rw [← HV.out, ← HS.out] at hO
          go_roundw
          case rel => exact ⟨k + 1, c2, _, by omega, by omega, by go_num, rfl, hO, hE.up hB⟩
          case measure => simp [intOf]; omega
        · have b3 : (y % 3 == 0) = false := by simpa using h3
          have HV := Lib.hid (show wgt x = y by rw [wgt, hy, if_neg h3])
          clear h3
          go_wp2_with (first
            | (go_at_call 13; refine (aroundR _ _ _ x0 x1 (by omega) (by omega)).mono ?_; rintro e w' ⟨rfl, rfl⟩)
            | (at_builtin; refine wpList_app1n intT3 _ rfl _ _ rfl _ _ _ _ _ rfl hown _ rfl (wf_of_i64 (by omega) (by omega)) (by omega) hle ?_; intro g' c2 w1 hO hG hB hor))
          rw [← HV.out, ← HS.out] at hO
          go_roundw
          case rel => exact ⟨k + 1, c2, _, by omega, by omega, by go_num, rfl, hO, hE.up hB⟩
          case measure => simp [intOf]; omega
      · have h6I : ¬ (k : Int) < 6 := by omega
        have hfin : (l.take k).map wgt = wgts l := by
          unfold wgts
          congr 1
          rcases Nat.lt_or_ge k 6 with h6' | h6'
          · rw [List.take_of_length_le (show l.length ≤ k by rw [h.len]; omega), List.take_of_length_le (show l.length ≤ 6 by rw [h.len]; omega)]
          · rw [show k = 6 by omega]
        rw [hfin] at hown
        have hlen := hown.1
        by_cases hz : (wgts l).sum = 0
        · have HS := Lib.hid (refSum_c A' k c' (wgts l) wi hown.reads (by omega) (fun x hx => by have := wgts_range x hx; omega))
          rw [hz] at HS
          have HF := Lib.hid (show weightsL l = wgts l ++ [1] by rw [weightsL, if_pos hz])
          clear hz hfin hlen
          go_wp2_with (first
            | (go_at_call 65; refine HS.out.mono ?_; rintro e w' ⟨rfl, rfl⟩)
            | (at_builtin; refine wpList_app1n intT3 _ rfl _ _ rfl _ _ _ _ _ rfl hown _ rfl (wf_of_i64 (by omega) (by omega)) (by omega) hle ?_; intro g' c2 w1 hO hG hB hor))
          go_ret
          exact RetOwn.mk_ HF.out hO (hE.up hB)
        · have HS := Lib.hid (refSum_c A' k c' (wgts l) wi hown.reads (by omega) (fun x hx => by have := wgts_range x hx; omega))
          have HF := Lib.hid (show weightsL l = wgts l by rw [weightsL, if_neg hz])
          have hz0 : ((wgts l).sum == 0) = false := by simpa using hz
          clear hz hfin hlen
          generalize (wgts l).sum = S at *
          go_wp2_with (go_at_call 65; refine HS.out.mono ?_; rintro e w' ⟨rfl, rfl⟩)
          go_ret
          exact RetOwn.mk_ HF.out hown hE
    ·
      have hfin : (l.take k).map wgt = wgts l := by
        unfold wgts
        congr 1
        rcases Nat.lt_or_ge k 6 with h6' | h6'
        · rw [List.take_of_length_le (show l.length ≤ k by rw [h.len]; omega), List.take_of_length_le (show l.length ≤ 6 by rw [h.len]; omega)]
        · rw [show k = 6 by omega]
      rw [hfin] at hown
      have hlen := hown.1
      by_cases hz : (wgts l).sum = 0
      · have HS := Lib.hid (refSum_c A' k c' (wgts l) wi hown.reads (by omega) (fun x hx => by have := wgts_range x hx; omega))
        rw [hz] at HS
        have HF := Lib.hid (show weightsL l = wgts l ++ [1] by rw [weightsL, if_pos hz])
        clear hz hfin hlen
        go_wp2_with (first
          | (go_at_call 65; refine HS.out.mono ?_; rintro e w' ⟨rfl, rfl⟩)
          | (at_builtin; refine wpList_app1n intT3 _ rfl _ _ rfl _ _ _ _ _ rfl hown _ rfl (wf_of_i64 (by omega) (by omega)) (by omega) hle ?_; intro g' c2 w1 hO hG hB hor))
        go_ret
        exact RetOwn.mk_ HF.out hO (hE.up hB)
      · have HS := Lib.hid (refSum_c A' k c' (wgts l) wi hown.reads (by omega) (fun x hx => by have := wgts_range x hx; omega))
        have HF := Lib.hid (show weightsL l = wgts l by rw [weightsL, if_neg hz])
        have hz0 : ((wgts l).sum == 0) = false := by simpa using hz
        clear hz hfin hlen
        generalize (wgts l).sum = S at *
        go_wp2_with (go_at_call 65; refine HS.out.mono ?_; rintro e w' ⟨rfl, rfl⟩)
        go_ret
        exact RetOwn.mk_ HF.out hown hE

theorem q1 : divQ 10 2 3 = 6 := by decide
theorem e1' : divE 10 2 3 = 0 := by decide
theorem q2 : ceilQ 10 2 3 = 7 := by decide
theorem e2' : ceilE 10 2 3 = 0 := by decide
theorem sameR_t (A1 A2 : Option Addr) (n1 c1 n2 c2 : Nat) (l : List Int) (w : World) (h1 : Nums .i64 w A1 n1 c1 l) (h2 : Nums .i64 w A2 n2 c2 l) :
    Calls Try.prog 16 #[.slice A1 n1 c1, .slice A2 n2 c2] w (RetT w true) :=
  (sameR A1 A2 n1 c1 n2 c2 l l w h1 h2).mono fun _ _ h => ⟨by rw [h.1]; simp [sameB], E.of_q h.2⟩
end Go.Proofs.Ytbpfdogjjoceaaa
