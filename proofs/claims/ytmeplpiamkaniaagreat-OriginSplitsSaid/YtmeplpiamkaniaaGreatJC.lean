/- Lemmas of the claim, joined: S4 S3 PK QP TM TN TO TP TQ QV Sh S5 S6 S7 Sr. No condition. -/
import Derived.Test.YtmeplpiamkaniaaGreatJB
import Derived.Test.YtmeplpiamkaniaaGreatChecked
import Derived.Test.YtmeplpiamkaniaaGreatJA
import Derived.Test.YtmeplpiamkaniaaGreatJQ
import Derived.Shelf.Small.Bits
import Derived.Shelf.Strconv.Itoa0
import Derived.Shelf.Bits.Mul64
import Derived.Test.YtmeplpiamkaniaaGreatProg
import Derived.Deep.DeepCutAuto
import Derived.Deep.CutBlock
import Derived.Laws.Bits64b
import Derived.Ground.SlgnProg
import Derived.Shelf.SlicesQ.Reverse
namespace Go.Proofs.YtmeplpiamkaniaaGreat
set_option linter.unusedVariables false
set_option linter.unusedSimpArgs false
def FirstMax (l : List Int) (n a : Nat) : Prop := a < n ∧ (∀ j, j < n → l.getD j 0 ≤ l.getD a 0) ∧ ∀ j, j < a → l.getD j 0 < l.getD a 0
theorem FirstMax.start (l : List Int) : FirstMax l 1 0 := ⟨by omega, fun j hj => by rw [show j = 0 by omega]; omega, fun j hj => by omega⟩
theorem FirstMax.more {l : List Int} {n a : Nat} (h : FirstMax l n a) (hl : l.getD a 0 < l.getD n 0) : FirstMax l (n + 1) n := by
  refine ⟨by omega, fun j hj => ?_, fun j hj => ?_⟩
  · by_cases e : j = n
    · subst e; omega
    · have := h.2.1 j (by omega); omega
  · have := h.2.1 j hj; omega
theorem FirstMax.keep {l : List Int} {n a : Nat} (h : FirstMax l n a) (hl : ¬ l.getD a 0 < l.getD n 0) : FirstMax l (n + 1) a := by
  refine ⟨by have := h.1; omega, fun j hj => ?_, h.2.2⟩
  by_cases e : j = n
  · subst e; omega
  · exact h.2.1 j (by omega)
theorem bump_sum (l : List Int) : ∀ (is : List Nat), (∀ i ∈ is, i < l.length) → (bump l is).sum = l.sum + is.length := by
  intro is
  induction is generalizing l with
  | nil => intro _; simp [bump]
  | cons i is ih =>
    intro h
    rw [bump, ih _ (fun j hj => by have := h j (by simp [hj]); simpa using this)]
    have hi := h i (by simp)
    have key : ∀ (l : List Int) (i : Nat), i < l.length → (l.set i (l.getD i 0 + 1)).sum = l.sum + 1 := by
      intro l
      induction l with
      | nil => intro i h; simp at h
      | cons a l ih =>
        intro i h
        cases i with
        | zero => simp; omega
        | succ i => simp only [sC, List.sum_cons, List.getD_cons_succ]; rw [ih i (by simpa using h)]; omega
    rw [key l i hi]
    simp; omega
theorem quos_len (t S : Int) (ws : List Int) : (quos t S ws).length = ws.length := by simp [quos]
theorem rems_len (t S : Int) (ws : List Int) : (rems t S ws).length = ws.length := by simp [rems]
theorem splitL_len (t : Int) (ws : List Int) : (splitL t ws).length = ws.length := by rw [splitL, bump_len, quos_len]
theorem okU_all {l : List Int} (h : l.all okU = true) {x : Int} (hx : x ∈ l) : 0 ≤ x ∧ x ≤ 1099511627776 := okU_iff.1 (List.all_eq_true.1 h x hx)
structure SplitPre (t : Int) (ws : List Int) : Prop where
  t0 : 0 ≤ t
  t1 : t ≤ 1099511627776
  w0 : ∀ x ∈ ws, 0 ≤ x ∧ x ≤ 1099511627776
  s0 : 0 < ws.sum
  s1 : ws.sum ≤ 1152921504606846976
theorem splitPre_of {t : Int} {ws : List Int} (h : splitOk t ws = true) : SplitPre t ws := by
  simp only [splitOk, Bool.and_eq_true, decide_eq_true_eq] at h
  obtain ⟨h1, h2, h3, h4⟩ := h
  exact ⟨(okU_iff.1 h1).1, (okU_iff.1 h1).2, fun x hx => okU_all h2 hx, h3, h4⟩
theorem splitOk_of {t : Int} {ws : List Int} (h : SplitPre t ws) : splitOk t ws = true := by
  simp only [splitOk, Bool.and_eq_true, decide_eq_true_eq, List.all_eq_true]
  exact ⟨okU_iff.2 ⟨h.t0, h.t1⟩, fun x hx => okU_iff.2 (h.w0 x hx), h.s0, h.s1⟩
theorem splitL_sum {t : Int} {ws : List Int} (h : SplitPre t ws) : (splitL t ws).sum = t := by
  have hl := left_le (t := t) h.s0
  have hf := (left_facts (t := t) h.s0).1
  rw [splitL, bump_sum _ _ (fun i hi => by
    have := ordL_mem.1 (List.mem_of_mem_take hi)
    rw [rems_len] at this; rw [quos_len]; exact this)]
  rw [List.length_take, ordL_len, rems_len, Nat.min_eq_left hl]
  unfold leftS; omega
theorem splitL_get {t : Int} {ws : List Int} {i : Nat} (hi : i < ws.length) :
    (splitL t ws).getD i 0 = t * ws.getD i 0 / ws.sum + (if i ∈ (ordL (rems t ws.sum ws)).take (leftS t ws.sum ws) then 1 else 0) := by
  rw [splitL, bump_get _ _ ((ordL_nodup _).sublist (List.take_sublist _ _)) _ (by rw [quos_len]; exact hi)]
  congr 1
  simp [quos, List.getD_eq_getElem?_getD, List.getElem?_eq_getElem hi]
theorem rems_get {t S : Int} {ws : List Int} {i : Nat} (hi : i < ws.length) : (rems t S ws).getD i 0 = t * ws.getD i 0 % S := by
  simp [rems, List.getD_eq_getElem?_getD, List.getElem?_eq_getElem hi]
theorem chosen_pos {t : Int} {ws : List Int} (hS : 0 < ws.sum) {i : Nat} (hi : i ∈ (ordL (rems t ws.sum ws)).take (leftS t ws.sum ws)) : 0 < t * ws.getD i 0 % ws.sum := by
  have := first_pos (left_facts (t := t) hS).2 hi
  have hl := ordL_mem.1 (List.mem_of_mem_take hi)
  rw [rems_len] at hl
  rwa [rems_get hl] at this
theorem part_le {t x S : Int} (ht : 0 ≤ t) (hx : x ≤ S) (hS : 0 < S) : t * x / S ≤ t := by
  have h1 : t * x ≤ t * S := Int.mul_le_mul_of_nonneg_left hx ht
  have := Int.ediv_le_ediv hS h1
  rwa [Int.mul_ediv_cancel _ (by omega)] at this
theorem splitL_quota {t : Int} {ws : List Int} (h : SplitPre t ws) {i : Nat} (hi : i < ws.length) :
    t * ws.getD i 0 / ws.sum ≤ (splitL t ws).getD i 0 ∧ (splitL t ws).getD i 0 ≤ t * ws.getD i 0 / ws.sum + (if 0 < t * ws.getD i 0 % ws.sum then 1 else 0) := by
  rw [splitL_get hi]
  by_cases hc : i ∈ (ordL (rems t ws.sum ws)).take (leftS t ws.sum ws)
  · have := chosen_pos h.s0 hc
    rw [if_pos hc, if_pos this]; omega
  · rw [if_neg hc]; split <;> omega
theorem getD_mem {l : List Int} {i : Nat} (hi : i < l.length) : l.getD i 0 ∈ l := by
  rw [List.getD_eq_getElem?_getD, List.getElem?_eq_getElem hi]; exact List.getElem_mem hi
theorem ceil_le {t x S : Int} (ht : 0 ≤ t) (hx : x ≤ S) (hS : 0 < S) (hr : 0 < t * x % S) : t * x / S + 1 ≤ t := by
  have h1 : t * x ≤ t * S := Int.mul_le_mul_of_nonneg_left hx ht
  have h2 := Int.mul_ediv_add_emod (t * x) S
  have : t * x / S < t := by
    rcases Int.lt_or_le (t * x / S) t with h | h
    · exact h
    · have := Int.mul_le_mul_of_nonneg_left h (show 0 ≤ S by omega)
      rw [Int.mul_comm S t] at this; omega
  omega
theorem splitL_range {t : Int} {ws : List Int} (h : SplitPre t ws) : ∀ x ∈ splitL t ws, 0 ≤ x ∧ x ≤ t := by
  intro x hx
  obtain ⟨i, hi, rfl⟩ := List.getElem_of_mem hx
  rw [splitL_len] at hi
  have hg : (splitL t ws)[i] = (splitL t ws).getD i 0 := by rw [List.getD_eq_getElem?_getD, List.getElem?_eq_getElem (by rw [splitL_len]; exact hi)]; rfl
  rw [hg]
  have hq := splitL_quota h hi
  have hm := getD_mem hi
  have hw := h.w0 _ hm
  have hs := le_sum (fun x hx => (h.w0 x hx).1) hm
  have h0 := Int.ediv_nonneg (Int.mul_nonneg h.t0 hw.1) (Int.le_of_lt h.s0)
  refine ⟨by omega, ?_⟩
  by_cases hr : 0 < t * ws.getD i 0 % ws.sum
  · rw [if_pos hr] at hq
    have := ceil_le h.t0 hs h.s0 hr
    omega
  · rw [if_neg hr] at hq
    have := part_le h.t0 hs h.s0
    omega
end Go.Proofs.YtmeplpiamkaniaaGreat
namespace Go.Proofs.YtmeplpiamkaniaaGreat
set_option linter.unusedVariables false
set_option linter.unusedSimpArgs false
open Go.RowKit
def okL (x : Int) : Bool := decide (0 ≤ x) && decide (x ≤ 1152921504606846976)
theorem okL_iff {x : Int} : okL x = true ↔ 0 ≤ x ∧ x ≤ 1152921504606846976 := by simp [okL]
set_option maxHeartbeats 400000 in
theorem isAmount_c (x : Int) (w : World) : Calls Tryz.prog 48 #[.int .i64 x] w fun e w' => e = .returned (.bool (okU x)) ∧ w = w' := by
  by_cases h : 0 ≤ x
  · have hd : decide (0 ≤ x) = true := by simpa using h
    have HF := Lib.hid (show okU x = decide (x ≤ 1099511627776) by simp [okU, h])
    go_enter Tryz.func48, Tryz.ntmps48
    go_wp2
    go_ret
    exact ⟨ret_bool HF.out.symm, rfl⟩
  · have hd : decide (0 ≤ x) = false := by simpa using h
    have HF := Lib.hid (show okU x = false by simp [okU, h])
    go_enter Tryz.func48, Tryz.ntmps48
    go_wp2
    go_ret
    exact ⟨ret_bool HF.out.symm, rfl⟩
set_option maxHeartbeats 400000 in
theorem isLarge_c (x : Int) (w : World) : Calls Tryz.prog 85 #[.int .i64 x] w fun e w' => e = .returned (.bool (okL x)) ∧ w = w' := by
  by_cases h : 0 ≤ x
  · have hd : decide (0 ≤ x) = true := by simpa using h
    have HF := Lib.hid (show okL x = decide (x ≤ 1152921504606846976) by simp [okL, h])
    go_enter Tryz.func85, Tryz.ntmps85
    go_wp2
    go_ret
    exact ⟨ret_bool HF.out.symm, rfl⟩
  · have hd : decide (0 ≤ x) = false := by simpa using h
    have HF := Lib.hid (show okL x = false by simp [okL, h])
    go_enter Tryz.func85, Tryz.ntmps85
    go_wp2
    go_ret
    exact ⟨ret_bool HF.out.symm, rfl⟩
set_option maxHeartbeats 400000 in
theorem aroundR (a m : Int) (w : World) (h1 : -9223372036854775808 ≤ a) (h2 : a ≤ 9223372036854775807) (hm : 0 < m) (hm2 : m ≤ 9223372036854775807) :
    Calls Tryz.prog 17 #[.int .i64 a, .int .i64 m] w fun e w' => e = .returned (.int .i64 (a % m)) ∧ w = w' := by
  have hz : (m == 0) = false := by simp; omega
  have hz1 : (m == -1) = false := by simp; omega
  have ht : -m < a.tmod m ∧ a.tmod m < m := ⟨Int.lt_tmod_of_pos a hm, Int.tmod_lt_of_pos a hm⟩
  obtain ⟨t1, t2⟩ := ht
  by_cases h : a.tmod m < 0
  · have HF := Lib.hid (show a.tmod m + m = a % m by
      have := Int.tmod_def a m; rw [Int.tmod_eq_emod] at h ⊢; split at h
      · have := Int.emod_nonneg a (show m ≠ 0 by omega); omega
      · split <;> omega)
    go_enter Tryz.func17, Tryz.ntmps17
    go_wp2
    go_ret
    exact ⟨ret_int HF.out, rfl⟩
  · have HF := Lib.hid (show a.tmod m = a % m by
      rw [Int.tmod_eq_emod] at h ⊢; split at h
      · rename_i hh; rw [if_pos hh]; omega
      · have := Int.emod_lt_of_pos a hm; omega)
    go_enter Tryz.func17, Tryz.ntmps17
    go_wp2
    go_ret
    exact ⟨ret_int HF.out, rfl⟩
end Go.Proofs.YtmeplpiamkaniaaGreat
namespace Go.Proofs.YtmeplpiamkaniaaGreat
set_option linter.unusedVariables false
set_option linter.unusedSimpArgs false
open Go.RowKit
theorem lots_made (w : World) (l : List Lt) (hw : ∀ x ∈ l, WfL x) (h0 : 0 < l.length) (hm : l.length ≤ 1000) : LotsAt (w.alloc (.cells (flatL l).toArray 30)) (some ⟨w.heap.size, 0, none⟩) l.length l.length l :=
  ⟨rfl, Nat.le_refl _, by unfold maxLen; omega, hw, fun _ => ⟨w.heap.size, 0, rfl, by simp, fun i x hi => by
    obtain ⟨h1, h2, h3⟩ := flatL_at l i x hi
    have hb := heap_alloc_new w (.cells (flatL l).toArray 30)
    have e : ∀ j u, (flatL l)[j]? = some u → (w.alloc (.cells (flatL l).toArray 30)).cell? ⟨w.heap.size, j, none⟩ = some u := fun j u hu => by
      rw [cell_of_row _ _ j _ _ _ hb, List.getElem?_toArray, hu]
    rw [Nat.zero_add]
    exact ⟨e _ _ h1, e _ _ h2, e _ _ h3⟩⟩⟩
theorem wfl_lit {f a n : Int} (h : 0 ≤ f ∧ f ≤ 100 ∧ 0 ≤ a ∧ a ≤ 100 ∧ 0 ≤ n ∧ n ≤ 100) : WfL (f, a, n) := ⟨wf_of_i64 (by simp only; omega) (by simp only; omega), wf_of_i64 (by simp only; omega) (by simp only; omega), wf_of_i64 (by simp only; omega) (by simp only; omega)⟩
theorem same_self (A1 A2 : Option Addr) (n1 c1 n2 c2 : Nat) (l : List Lt) (w : World) (h1 : LotsAt w A1 n1 c1 l) (h2 : LotsAt w A2 n2 c2 l) : Calls Tryz.prog 24 #[.slice A1 n1 c1, .slice A2 n2 c2] w (RetK w true) := by
  have h := sameL_c A1 A2 n1 c1 n2 c2 l l w h1 h2
  rw [show decide (l = l) = true from decide_eq_true rfl] at h
  exact h
end Go.Proofs.YtmeplpiamkaniaaGreat
namespace Go.Proofs.YtmeplpiamkaniaaGreat
set_option linter.unusedVariables false
set_option linter.unusedSimpArgs false
def srcF (fs : List Fl) (x : Lt) : List Lt := glue ((ul x).filterMap (srcU fs))
theorem has_get {fs : List Fl} {x : Lt} (h : hasF fs x = true) : ∃ f, getF fs x.1 = some f ∧ f ∈ fs ∧ f.id = x.1 ∧ 0 ≤ x.2.1 ∧ 1 ≤ x.2.2 ∧ x.2.1 + x.2.2 ≤ f.n := by
  obtain ⟨h1, f, h2, h3⟩ := hasF_iff.1 h
  have h1 := possB_iff.1 h1
  exact ⟨f, h2, (getF_some h2).1, (getF_some h2).2, h1.2.1, h1.2.2.2.1, h3⟩
theorem src_new {fs : List Fl} {x : Lt} {f : Fl} (hf : getF fs x.1 = some f) (hp : f.parts = []) : (ul x).filterMap (srcU fs) = [] := by
  rw [List.filterMap_eq_nil_iff]
  intro u hu
  exact src_none (by rw [(mem_ul.1 hu).1]; exact hf) hp
theorem srcF_new {fs : List Fl} {x : Lt} {f : Fl} (hf : getF fs x.1 = some f) (hp : f.parts = []) : srcF fs x = [] := by
  rw [srcF, src_new hf hp]; rfl
theorem src_cut {fs : List Fl} (hg : GOk fs) {x : Lt} (h : hasF fs x = true) {f : Fl} (hf : getF fs x.1 = some f) (hp : f.parts ≠ []) : (ul x).filterMap (srcU fs) = cutU f.parts x.2.1 x.2.2 := by
  obtain ⟨f', h1, h2, _, h4, h5, h6⟩ := has_get h
  rw [hf] at h1
  injection h1 with h1
  subst h1
  have := hg.len h2 hp
  exact srcs_eq hf h4 (by omega) (by omega)
theorem src_len {fs : List Fl} (hg : GOk fs) {x : Lt} (h : hasF fs x = true) {f : Fl} (hf : getF fs x.1 = some f) (hp : f.parts ≠ []) : ((ul x).filterMap (srcU fs)).length = x.2.2.toNat := by
  rw [src_cut hg h hf hp, cutU, List.length_take, List.length_drop]
  obtain ⟨f', h1, h2, _, h4, h5, h6⟩ := has_get h
  rw [hf] at h1
  injection h1 with h1
  subst h1
  have := hg.len h2 hp
  omega
theorem U_srcF (fs : List Fl) (x : Lt) : U (srcF fs x) = (ul x).filterMap (srcU fs) := U_glue _
theorem src_roots {fs : List Fl} {r : Un → Un} (hr : RootOf fs r) : ∀ {us : List Un}, (∀ u ∈ us, ∃ v, srcU fs u = some v) → (us.filterMap (srcU fs)).map r = us.map r
  | [], _ => rfl
  | u :: us, h => by
    obtain ⟨v, hv⟩ := h u List.mem_cons_self
    rw [List.filterMap_cons, hv, List.map_cons, List.map_cons, hr.some_ hv, src_roots hr fun w hw => h w (List.mem_cons_of_mem _ hw)]
theorem srcF_roots {fs : List Fl} (hg : GOk fs) {r : Un → Un} (hr : RootOf fs r) {x : Lt} (h : hasF fs x = true) {f : Fl} (hf : getF fs x.1 = some f) (hp : f.parts ≠ []) : (U (srcF fs x)).map r = (ul x).map r := by
  rw [U_srcF, src_roots hr fun u hu => hg.src_some (hasF_units h u hu) (by rw [(mem_ul.1 hu).1]; exact hf) hp]
theorem new_roots {fs : List Fl} {r : Un → Un} (hr : RootOf fs r) {x : Lt} {f : Fl} (hf : getF fs x.1 = some f) (hp : f.parts = []) : (ul x).map r = ul x := by
  have : ∀ u ∈ ul x, r u = id u := fun u hu => hr.none_ (src_none (by rw [(mem_ul.1 hu).1]; exact hf) hp)
  rw [List.map_congr_left this, List.map_id]
theorem srcF_has {fs : List Fl} (hg : GOk fs) {x : Lt} : ∀ y ∈ srcF fs x, hasF fs y = true := fun y hy => by
  have hgl := glue_glued ((ul x).filterMap (srcU fs))
  refine (poss_units hg (hgl.mem y hy) fun u hu => ?_).2
  have hm : u ∈ U (srcF fs x) := mem_U.2 ⟨y, hy, hu⟩
  rw [U_srcF] at hm
  obtain ⟨v, _, hv⟩ := List.mem_filterMap.1 hm
  exact (hg.src hv).1
theorem srcF_ne {fs : List Fl} (hg : GOk fs) {x : Lt} (h : hasF fs x = true) {f : Fl} (hf : getF fs x.1 = some f) (hp : f.parts ≠ []) : srcF fs x ≠ [] := fun e => by
  have h1 := src_len hg h hf hp
  rw [← U_srcF, e] at h1
  obtain ⟨_, _, _, _, _, h5, _⟩ := has_get h
  simp [U_nil] at h1
  omega
theorem srcF_refs {fs : List Fl} (hg : GOk fs) {x : Lt} {f : Fl} (hf : getF fs x.1 = some f) : ∀ y ∈ srcF fs x, y.1 ∈ refsF f := fun y hy => by
  have hgl := glue_glued ((ul x).filterMap (srcU fs))
  have hm : (y.1, y.2.1) ∈ U (srcF fs x) := mem_U.2 ⟨y, hy, mem_ul.2 ⟨rfl, by simp only; omega, by have := hgl.mem y hy; simp only; omega⟩⟩
  rw [U_srcF] at hm
  obtain ⟨u, hu, hv⟩ := List.mem_filterMap.1 hm
  obtain ⟨_, f', h1, h2, _⟩ := hg.src hv
  rw [(mem_ul.1 hu).1, hf] at h1
  injection h1 with h1
  subst h1
  exact h2
def rootF (fs : List Fl) (r : Un → Un) (x : Lt) : List Lt := if hasF fs x then glue ((ul x).map r) else []
theorem RootOf.inG {fs : List Fl} (hg : GOk fs) {r : Un → Un} (hr : RootOf fs r) : ∀ u, InG fs u → InG fs (r u) := by
  obtain ⟨rk, hrk⟩ := hg.rk
  have key : ∀ n u, rk u.1 < n → InG fs u → InG fs (r u) := by
    intro n
    induction n with
    | zero => intro u h; omega
    | succ n ih =>
      intro u hn hu
      cases hv : srcU fs u with
      | none => rw [hr.none_ hv]; exact hu
      | some v =>
        rw [hr.some_ hv]
        obtain ⟨h1, f, h2, h3, _⟩ := hg.src hv
        have := hrk f (getF_some h2).1 v.1 h3
        rw [(getF_some h2).2] at this
        exact ih v (by omega) h1
  exact fun u => key _ u (Nat.lt_succ_self _)
structure RtSt (fs : List Fl) (r : Un → Un) (x : Lt) (waiting : List Lt) (us : List Un) : Prop where
  has : ∀ y ∈ waiting, hasF fs y = true
  all : us ++ waiting.reverse.flatMap (fun y => (ul y).map r) = (ul x).map r
theorem flat_roots (r : Un → Un) (l : List Lt) : l.flatMap (fun y => (ul y).map r) = (U l).map r := by
  induction l with
  | nil => rfl
  | cons x l ih => rw [List.flatMap_cons, ih, U_cons, List.map_append]
section
variable {fs : List Fl} {r : Un → Un} {x next : Lt} {waiting : List Lt} {us : List Un}
theorem RtSt.start (h : hasF fs x = true) : RtSt fs r x [x] [] := ⟨by simpa using h, by simp⟩
theorem RtSt.new (h : RtSt fs r x (waiting ++ [next]) us) (hr : RootOf fs r) {f : Fl} (hf : getF fs next.1 = some f) (hp : f.parts = []) : RtSt fs r x waiting (us ++ ul next) :=
  ⟨fun y hy => h.has y (List.mem_append_left _ hy), by
    have := h.all
    rw [List.reverse_append, List.flatMap_append] at this
    simp only [List.reverse_singleton, List.flatMap_cons, List.flatMap_nil, List.append_nil] at this
    rw [new_roots hr hf hp, ← List.append_assoc] at this
    exact this⟩
theorem RtSt.more (h : RtSt fs r x (waiting ++ [next]) us) (hg : GOk fs) (hr : RootOf fs r) {f : Fl} (hf : getF fs next.1 = some f) (hp : f.parts ≠ []) : RtSt fs r x (waiting ++ (srcF fs next).reverse) us :=
  ⟨fun y hy => by
    rcases List.mem_append.1 hy with hy | hy
    · exact h.has y (List.mem_append_left _ hy)
    · exact srcF_has hg y (List.mem_reverse.1 hy), by
    have := h.all
    rw [List.reverse_append, List.flatMap_append] at this
    simp only [List.reverse_singleton, List.flatMap_cons, List.flatMap_nil, List.append_nil] at this
    rw [List.reverse_append, List.reverse_reverse, List.flatMap_append, flat_roots, srcF_roots hg hr (h.has next (by simp)) hf hp]
    exact this⟩
theorem RtSt.done (h : RtSt fs r x [] us) (hx : hasF fs x = true) : glue us = rootF fs r x := by
  have := h.all
  simp at this
  rw [rootF, if_pos hx, this]
theorem RtSt.cnt (h : RtSt fs r x waiting us) : us.length + waiting.length ≤ x.2.2.toNat := by
  have := congrArg List.length h.all
  rw [List.length_append, List.length_map, ul_len, flat_roots, List.length_map] at this
  have h2 := len_units (l := waiting.reverse) (fun y hy => by obtain ⟨_, _, _, _, _, h5, _⟩ := has_get (h.has y (List.mem_reverse.1 hy)); exact h5)
  rw [List.length_reverse] at h2
  omega
end
def rtM (rk : Int → Nat) (l : List Lt) : Nat := (l.map fun y => y.2.2.toNat * (rk y.1 + 1)).sum
theorem rtM_app (rk : Int → Nat) (a b : List Lt) : rtM rk (a ++ b) = rtM rk a + rtM rk b := by simp [rtM]
theorem rtM_rev (rk : Int → Nat) (a : List Lt) : rtM rk a.reverse = rtM rk a := by
  induction a with
  | nil => rfl
  | cons x a ih => rw [List.reverse_cons, rtM_app, ih]; simp [rtM]; omega
theorem rtM_one (rk : Int → Nat) (y : Lt) (h : 1 ≤ y.2.2) : 1 ≤ rtM rk [y] := by
  have h1 : 1 ≤ y.2.2.toNat := by omega
  have := Nat.mul_le_mul h1 (Nat.le_add_left 1 (rk y.1))
  simpa [rtM] using this
theorem rtM_le {rk : Int → Nat} {k : Nat} : ∀ {l : List Lt}, (∀ y ∈ l, rk y.1 + 1 ≤ k ∧ 0 ≤ y.2.2) → rtM rk l ≤ (U l).length * k
  | [], _ => Nat.zero_le _
  | y :: l, h => by
    have h1 := rtM_le (rk := rk) (k := k) (l := l) fun z hz => h z (List.mem_cons_of_mem _ hz)
    obtain ⟨h2, _⟩ := h y List.mem_cons_self
    have h3 : rtM rk (y :: l) = y.2.2.toNat * (rk y.1 + 1) + rtM rk l := rfl
    rw [h3, U_cons, List.length_append, ul_len, Nat.add_mul]
    exact Nat.add_le_add (Nat.mul_le_mul (Nat.le_refl _) h2) h1
theorem rtM_src {fs : List Fl} (hg : GOk fs) {rk : Int → Nat} (hrk : ∀ f ∈ fs, ∀ j ∈ refsF f, rk j < rk f.id) {next : Lt} (h : hasF fs next = true) {f : Fl} (hf : getF fs next.1 = some f) (hp : f.parts ≠ []) : rtM rk (srcF fs next) < rtM rk [next] := by
  have h1 : rtM rk (srcF fs next) ≤ (U (srcF fs next)).length * rk next.1 := rtM_le fun y hy => by
    obtain ⟨_, _, _, _, _, h5, _⟩ := has_get (srcF_has hg y hy)
    have := hrk f (getF_some hf).1 y.1 (srcF_refs hg hf y hy)
    rw [(getF_some hf).2] at this
    exact ⟨this, by omega⟩
  rw [U_srcF, src_len hg h hf hp] at h1
  obtain ⟨_, _, _, _, _, h5, _⟩ := has_get h
  have h2 : rtM rk [next] = next.2.2.toNat * (rk next.1 + 1) := by simp [rtM]
  rw [h2, Nat.mul_add]
  omega
end Go.Proofs.YtmeplpiamkaniaaGreat
namespace Go.Proofs.YtmeplpiamkaniaaGreat
set_option linter.unusedVariables false
set_option linter.unusedSimpArgs false
open Go.RowKit Go.Shelf
attribute [local go_sem] Oper.semAt_some
def pcs : List Lt → List Int → List (Lt × Bool)
  | x :: l, k :: ks => ((x.1, x.2.1, k), true) :: ((x.1, x.2.1 + k, x.2.2 - k), false) :: pcs l ks
  | _, _ => []
theorem pcs_take {l : List Lt} {ks : List Int} {i : Nat} {x : Lt} {k : Int} (hx : l[i]? = some x) (hk : ks[i]? = some k) : pcs (l.take (i + 1)) (ks.take (i + 1)) = pcs (l.take i) (ks.take i) ++ [((x.1, x.2.1, k), true)] ++ [((x.1, x.2.1 + k, x.2.2 - k), false)] := by
  induction l generalizing ks i with
  | nil => simp at hx
  | cons y l ih =>
    cases ks with
    | nil => simp at hk
    | cons j ks =>
      cases i with
      | zero => simp at hx hk; subst hx hk; simp [pcs]
      | succ i =>
        have := ih (by simpa using hx) (by simpa using hk)
        rw [List.take_succ_cons, List.take_succ_cons, pcs, this, List.take_succ_cons, List.take_succ_cons, pcs]
        simp
theorem pcs_len : ∀ (l : List Lt) (ks : List Int), (pcs l ks).length ≤ 2 * l.length
  | [], _ => by simp [pcs]
  | _ :: _, [] => by simp [pcs]
  | x :: l, k :: ks => by
    have := pcs_len l ks
    simp only [pcs, List.length_cons]
    omega
structure Eats (L : Nat) (N : Nat) (J : List (Lt × Bool) → (Nat → Prop) → World → Prop) : Prop where
  lt : ∀ ps X W, J ps X W → ∀ i, X i → N ≤ i ∧ i < W.heap.size
  keep : ∀ ps X W W', J ps X W → (∀ i, X i → W'.heap[i]? = W.heap[i]?) → J ps X W'
  eat : ∀ ps X W (x : Lt) (f : Bool) (m : Nat), J ps X W → ps.length ≤ 300000 → (x.2.2 ≠ 0 → possB x = true) → WfL x →
    YieldAt Fence.wide m Tryz.prog L #[ltV x, .bool f] W fun e W' => e = .returned (.bool true) ∧ ∃ X', J (ps ++ [(x, f)]) X' W' ∧ Ex X W W' ∧ ∀ i, X' i → X i ∨ W.heap.size ≤ i
theorem pieces_c (v1 v2 : Value) (A : Option Addr) (n c : Nat) (gf : FuncId) (lb : List Value) (w : World) (h1 : v1 = .slice A n c) (h2 : v2 = .func (.func gf) #[] lb.toArray) :
    Calls Tryz.prog 94 #[v1, v2] w fun e w' => e = .returned (.func (.func 127) #[] #[ptr w.heap.size, ptr (w.heap.size + 1)]) ∧
      w' = (w.alloc (.cells #[v1] 41)).alloc (.cells #[v2] 97) := by
  subst h1 h2
  unfold ptr
  go_enter Tryz.func94, Tryz.ntmps94
  go_wp2_with fail
  go_ret
  exact ⟨rfl, rfl⟩
set_option maxHeartbeats 4000000 in
set_option maxRecDepth 100000 in
theorem pieces1_c {gf : FuncId} {lb : List Value} {ks : List Int} {N : Nat} {Y : Nat → Prop} {Cn : Nat → World → Prop} (hC : Counter gf lb ks N Y Cn) {L : Nat} {J : List (Lt × Bool) → (Nat → Prop) → World → Prop} (hJ : Eats L N J)
    (W1 : World) (Bl Bc : Nat) (A : Option Addr) (n c : Nat) (l : List Lt) (hA : LotsAt W1 A n c l) (hAY : 0 < n → ∀ b, ob A = some b → b < N ∧ ¬ Y b) (hp : ∀ x ∈ l, possB x = true) (hks : ks.length = n) (hk : ∀ (i : Nat) (x : Lt) (k : Int), l[i]? = some x → ks[i]? = some k → 0 ≤ k ∧ k ≤ x.2.2)
    (hl : W1.heap[Bl]? = some (.cells #[.slice A n c] 41 (0, 0))) (hc : W1.heap[Bc]? = some (.cells #[.func (.func gf) #[] lb.toArray] 97 (0, 0))) (hNl : N ≤ Bl) (hNc : N ≤ Bc) (hn : n ≤ 100000)
    (X0 : Nat → Prop) (h0 : J [] X0 W1) (hXl : ¬ X0 Bl) (hXc : ¬ X0 Bc) (hc0 : Cn 0 W1) :
    Calls Tryz.prog 127 #[.func (.yield L) #[] #[], ptr Bl, ptr Bc] W1 fun e W' => (∃ v, e = .returned v) ∧ ∃ X', J (pcs l ks) X' W' ∧ Cn n W' ∧ Ex (fun i => X0 i ∨ Y i) W1 W' ∧ ∀ i, X' i → X0 i ∨ W1.heap.size ≤ i := by
  have HC := Lib.hid hC
  have HJ := Lib.hid hJ
  have HAY := Lib.hid hAY
  have HP := Lib.hid hp
  have HK := Lib.hid hk
  have HX0 := Lib.hid (And.intro hXl hXc)
  have _HNl := Lib.hid hNl
  have hcall := hC.enters
  obtain ⟨cl, _⟩ := cell_one hl
  have HL := Lib.hid hl
  have HCc := Lib.hid hc
  have H0 := Lib.hid (And.intro h0 hc0)
  have HLen := Lib.hid (And.intro hA.len hks)
  clear hC hJ hAY hp hk hXl hXc hl hc h0 hc0 hks
  unfold ptr
  go_enter Tryz.func127, Tryz.ntmps127
  go_wp2_with fail
  go_loopw [9] (fun ti wr => ∃ (k : Nat) (X : Nat → Prop), k ≤ n ∧ ti = .int .i64 k ∧ Hid (J (pcs (l.take k) (ks.take k)) X wr) ∧ Hid (Cn k wr) ∧ Hid (Ex (fun i => X0 i ∨ Y i) W1 wr) ∧ Hid (∀ i, X i → X0 i ∨ W1.heap.size ≤ i)) (fun ti _ => n - (intOf ti).toNat)
  case atStart => exact ⟨0, X0, Nat.zero_le _, rfl, show J _ _ _ by simpa [pcs] using H0.out.1, H0.out.2, Ex.refl _ _, fun i hi => .inl hi⟩
  case round =>
    obtain ⟨k, X, hk, rfl, hJk, hCk, hX, hXX⟩ := hrel
    by_cases hlt : k < n
    · have hN0 := fun i hi => (HJ.out.lt _ _ _ H0.out.1 i hi).1
      have hA' := hA.ex hX.out (fun h0 b hb x => by
        rcases x with x | x
        · have := hN0 b x; have := (HAY.out h0 b hb).1; omega
        · exact (HAY.out h0 b hb).2 x)
      obtain ⟨b, o, x, rfl, hb, hx, hwx, c0, c1, c2⟩ := hA'.get hlt
      obtain ⟨kv, hkv⟩ : ∃ kv, ks[k]? = some kv := ⟨_, List.getElem?_eq_getElem (by rw [HLen.out.2]; exact hlt)⟩
      have hkr := HK.out k x kv hx hkv
      have hpx := possB_iff.1 (HP.out x (List.mem_of_getElem? hx))
      have HPC := Lib.hid (pcs_take hx hkv)
      have HXlt := Lib.hid (HJ.out.lt _ _ _ hJk.out)
      have hblx : ∀ i, N ≤ i → ¬ X0 i → ¬ (X0 i ∨ Y i) := fun i hi h0 h => by
        rcases h with h | h
        · exact h0 h
        · have := HC.out.ylt i h; omega
      have hcr : wr.heap[Bc]? = _ := (hX.out.block _ (lt_blk HCc.out) (hblx _ hNc HX0.out.2)).trans HCc.out
      obtain ⟨ccr, _⟩ := cell_one hcr
      have hEr : E wr (wr.alloc (.cells #[.int .i64 x.1, .int .i64 x.2.1, .int .i64 x.2.2] 30)) := (E.refl _).alloc _
      have hbx := heap_alloc_new wr (.cells #[.int .i64 x.1, .int .i64 x.2.1, .int .i64 x.2.2] 30)
      obtain ⟨w2, hw2⟩ : ∃ w2, wr.alloc (.cells #[.int .i64 x.1, .int .i64 x.2.1, .int .i64 x.2.2] 30) = w2 := ⟨_, rfl⟩
      have ccr2 : w2.cell? ⟨Bc, 0, none⟩ = some (.func (.func gf) #[] lb.toArray) := by rw [← hw2, hEr.cell (p := ⟨Bc, 0, none⟩) (lt_blk hcr)]; exact ccr
      rw [hw2] at hEr hbx
      have hWN : N ≤ wr.heap.size := Nat.le_trans hNc (Nat.le_of_lt (lt_blk hcr))
      have HCall := Lib.hid (HC.out.step k kv w2 hkv (HC.out.keep k wr w2 hCk.out (fun b hb => hEr.block (Nat.lt_of_lt_of_le hb hWN))) (Nat.le_trans hWN hEr.le))
      have HJ2 := Lib.hid (HJ.out.keep _ _ _ w2 hJk.out (fun i hi => hEr.block (HXlt.out i hi).2))
      have HW2 := Lib.hid hw2
      have HER := Lib.hid hEr
      have hkI : (k : Int) < (n : Int) := by omega
      clear hx hkv hw2 hcr hblx hA hA' cl ccr hEr
      obtain ⟨f, a, m⟩ := x
      simp only at c0 c1 c2 hkr hpx HPC hbx HW2 hwx
      go_upto_region 3 with fail
      rw [HW2.out]
      clear HW2
      go_wp2_with fail
      refine HCall.out.mono ?_
      rintro e wa ⟨rfl, hCa, hYa⟩
      have hYn : ∀ i, N ≤ i → ¬ Y i := fun i hi hy => by have := HC.out.ylt i hy; omega
      have hJa := HJ.out.keep _ _ _ wa HJ2.out (fun i hi => hYa.block i (Nat.lt_of_lt_of_le (HXlt.out i hi).2 HER.out.le) (hYn i (HXlt.out i hi).1))
      have hbxa : wa.heap[wr.heap.size]? = _ := (hYa.block _ (lt_blk hbx) (hYn _ hWN)).trans hbx
      have d0 := cell_of_row _ _ 0 _ _ _ hbxa
      have d1 := cell_of_row _ _ 1 _ _ _ hbxa
      have d2 := cell_of_row _ _ 2 _ _ _ hbxa
      simp only [List.getElem?_toArray, List.getElem?_cons_zero, List.getElem?_cons_succ] at d0 d1 d2
      obtain ⟨x1, x2⟩ := wf_i64 hwx.1
      obtain ⟨fn, tmps, assign, body, hy, hR⟩ := HJ.out.eat _ _ _ (f, a, kv) true 2 hJa (by have := pcs_len (l.take k) (ks.take k); rw [List.length_take] at this; omega) (fun h => possB_iff.2 (by simp only at h ⊢; omega)) ⟨hwx.1, wf_of_i64 (by simp only; omega) (by simp only; omega), wf_of_i64 (by simp only; omega) (by simp only; omega)⟩
      unfold ltV at hy
      simp only at hy
      have hwr1 : IntKind.i64.wrap (a + kv) = a + kv := by rw [IntKind.wrap_i64]; omega
      have hwr2 : IntKind.i64.wrap (m - kv) = m - kv := by rw [IntKind.wrap_i64]; omega
      have HBXA := Lib.hid hbxa
      have HYA := Lib.hid hYa
      clear hbxa hYa hbx c0 c1 c2 ccr2 hb
      go_upto_region 4 with fail
      refine (wpIn_wide (n := 3)).1 ?_
      gi_wp2
      refine hR.mono ?_
      rintro e wb ⟨rfl, X2, hJb, hXb, hX2⟩
      clear hR hy d0 d1 d2
      have hnx : ¬ X wr.heap.size := fun h => by have := (HXlt.out _ h).2; omega
      have hbxb : wb.heap[wr.heap.size]? = _ := (hXb.block _ (lt_blk HBXA.out) hnx).trans HBXA.out
      have d0 := cell_of_row _ _ 0 _ _ _ hbxb
      have d1 := cell_of_row _ _ 1 _ _ _ hbxb
      have d2 := cell_of_row _ _ 2 _ _ _ hbxb
      simp only [List.getElem?_toArray, List.getElem?_cons_zero, List.getElem?_cons_succ] at d0 d1 d2
      obtain ⟨fn, tmps, assign, body, hy, hR⟩ := HJ.out.eat _ _ _ (f, a + kv, m - kv) false 2 hJb (by rw [List.length_append]; have := pcs_len (l.take k) (ks.take k); rw [List.length_take] at this; simp only [List.length_singleton]; omega) (fun h => possB_iff.2 (by simp only at h ⊢; omega)) ⟨hwx.1, wf_of_i64 (by simp only; omega) (by simp only; omega), wf_of_i64 (by simp only; omega) (by simp only; omega)⟩
      unfold ltV at hy
      simp only at hy
      clear hbxb
      gi_wp2
      refine hR.mono ?_
      rintro e wc ⟨rfl, X3, hJc, hXc, hX3⟩
      clear hR hy d0 d1 d2
      gi_wp2
      have hb3 : ∀ i, X2 i → N ≤ i := fun i hi => by
        rcases hX2 i hi with h | h
        · exact (HXlt.out i h).1
        · have := HER.out.le; have := HYA.out.size; omega
      have hCc := Lib.hid (HC.out.keep _ _ wc (HC.out.keep _ _ wb hCa (fun b hb => hXb.block b (Nat.lt_of_lt_of_le hb (Nat.le_trans hWN (Nat.le_trans HER.out.le HYA.out.size))) (fun h => by have := (HXlt.out b h).1; omega))) (fun b hb => hXc.block b (Nat.lt_of_lt_of_le hb (Nat.le_trans hWN (Nat.le_trans HER.out.le (Nat.le_trans HYA.out.size hXb.size)))) (fun h => by have := hb3 b h; omega)))
      have hX0' : ∀ i, X i → X0 i ∨ W1.heap.size ≤ i := hXX.out
      have hs1 : W1.heap.size ≤ wr.heap.size := hX.out.size
      have hs2 := HER.out.le
      have hs3 := HYA.out.size
      have hs4 := hXb.size
      have hX2' : ∀ i, X2 i → X0 i ∨ W1.heap.size ≤ i := fun i hi => by
        rcases hX2 i hi with h | h
        · exact hX0' i h
        · right; omega
      have hX3' : ∀ i, X3 i → X0 i ∨ W1.heap.size ≤ i := fun i hi => by
        rcases hX3 i hi with h | h
        · exact hX2' i h
        · right; omega
      have hEx := Lib.hid (show Ex (fun i => X0 i ∨ Y i) W1 wc from
        ((((hX.out.trans (Ex.of_e (X := fun _ => False) HER.out) (fun _ _ x => x) (fun _ _ y => y.elim)).trans HYA.out (Z := fun i => X0 i ∨ Y i) (fun _ _ x => x) (fun _ _ y => .inr y)).trans hXb (Z := fun i => X0 i ∨ Y i) (fun _ _ x => x) (fun i hi y => by
          rcases hX0' i y with h | h
          · exact .inl h
          · omega)).trans hXc (Z := fun i => X0 i ∨ Y i) (fun _ _ x => x) (fun i hi y => by
          rcases hX2' i y with h | h
          · exact .inl h
          · omega)))
      have hJf := Lib.hid (show J (pcs (l.take (k + 1)) (ks.take (k + 1))) X3 wc by rw [HPC.out]; exact hJc)
      have hX3f := Lib.hid hX3'
      clear hX3' hX2' hX0' hb3 hJa hJb hJc hXb hXc hX2 hX3 hCa
      go_wp2_with fail
      go_roundw
      case rel => exact ⟨k + 1, X3, by omega, by go_num, hJf.out, hCc.out, hEx.out, hX3f.out⟩
      case measure => simp [intOf]; omega
    · have hJf := Lib.hid (show J (pcs l ks) X wr by
        have := hJk.out
        rw [List.take_of_length_le (by rw [HLen.out.1]; omega), List.take_of_length_le (by rw [HLen.out.2]; omega)] at this
        exact this)
      have hCf := Lib.hid (show Cn n wr by rw [show n = k by omega]; exact hCk.out)
      go_wp2_with fail
      go_end0
      exact ⟨⟨_, rfl⟩, X, hJf.out, hCf.out, hX.out, hXX.out⟩
end Go.Proofs.YtmeplpiamkaniaaGreat
namespace Go.Proofs.YtmeplpiamkaniaaGreat
set_option linter.unusedVariables false
set_option linter.unusedSimpArgs false
open Go.RowKit Go.Shelf
attribute [local go_sem] Oper.semAt_some
theorem yield_round {P : Program} {m l : Nat} {r : Loop} {W W2 : World} {args : Array Value} (hl : W.heap[l]? = some (.loop r)) (hl2 : W2.heap[l]? = some (.loop r)) (hr : r.state = .ready) (hp : r.pending = none) (hs : args.size = r.params.size) {a₁ : Act} {R : World → Prop} {Rx : World → Prop}
    (hassign : ∀ (K : Act → World → Prop), K a₁ W2 → r.assign.wpIn (Fence.wide.inRound l) m P (Exit.then K (fun _ _ _ => False)) { tmps := (r.params.zip args).foldl (fun t (p, v) => t.setIfInBounds p v) r.tmps, defers := [] } W)
    (hbody : r.body.wpIn (Fence.wide.inRound l) m P (fun e _ V => V.heap[l]? = some (.loop { r with state := .busy }) ∧ ((e = .normal ∧ R (V.putObj l (.loop r))) ∨ (e = .ret ∧ Rx (V.putObj l (.loop { r with state := .done, pending := some .ret }))))) a₁ (W2.putObj l (.loop { r with state := .busy }))) :
    YieldAt Fence.wide m P l args W fun e W' => (e = .returned (.bool true) ∧ R W') ∨ (e = .returned (.bool false) ∧ Rx W') := by
  refine ⟨r.fn, _, r.assign, r.body, run_yield hl hs, roundIn_of_wpIn trivial (hassign _ ⟨_, run_beginRound hl2 hr, wpIn_mono hbody ?_⟩)⟩
  rintro e a V ⟨hV, hor⟩
  rcases hor with ⟨rfl, hR⟩ | ⟨rfl, hR⟩
  · refine ⟨_, _, run_endRound none hV, .inl ⟨rfl, ?_⟩⟩
    obtain ⟨st, pe, fn, tmps, ps, asg, bo, df⟩ := r
    simp only at hr hp hR ⊢
    subst hr hp
    exact hR
  · exact ⟨_, _, run_endRound (some .ret) hV, .inr ⟨rfl, hR⟩⟩
theorem wp_rangeX {P : Program} {g : Operand} {ps : Array Tmp} {assign body : Code} {Q : Exit → Act → World → Prop} {a : Act} {w : World} {gf : Nat} {lb : Array Value} (hg : a.eval g = .func (.func gf) #[] lb) (eg : ∀ args w, (callFunc gf args).run P w = .ok (.enter gf args) w) {Post PostX : World → Prop}
    (hit : ∀ r : Loop, r.state = .ready → r.pending = none → r.tmps = a.tmps → r.params = ps → r.assign = assign → r.body = body → Calls P gf (#[.func (.yield (w.heap.size + 1)) #[] #[]] ++ lb) ((w.alloc (.deferred (some []))).alloc (.loop r))
      fun e W' => (∃ v, e = .returned v) ∧ ((W'.heap[w.heap.size + 1]? = some (.loop r) ∧ Post W') ∨ (W'.heap[w.heap.size + 1]? = some (.loop { r with state := .done, pending := some .ret }) ∧ PostX W')))
    (hdone : ∀ (W' : World) (o : Obj), Post W' → w.heap.size + 1 < W'.heap.size → Q .normal { a with defers := { target := .collected w.heap.size, args := #[] } :: a.defers } (W'.putObj (w.heap.size + 1) o))
    (hstop : ∀ (W' : World) (o : Obj), PostX W' → w.heap.size + 1 < W'.heap.size → Code.ret.wp P Q { a with defers := { target := .collected w.heap.size, args := #[] } :: a.defers } (W'.putObj (w.heap.size + 1) o)) :
    (Code.rangeFunc g ps assign body).wp P Q a w := by
  refine (wpIn_wide (n := 3)).1 (wpIn_rangeFunc ?_)
  intro fn hfn
  have hit' := hit { state := .ready, pending := none, fn, tmps := a.tmps, params := ps, assign, body, defers := w.heap.size } rfl rfl rfl rfl rfl rfl
  obtain ⟨W1, hW1⟩ : ∃ W1, (w.alloc (.deferred (some []))).alloc (.loop { state := .ready, pending := none, fn, tmps := a.tmps, params := ps, assign, body, defers := w.heap.size }) = W1 := ⟨_, rfl⟩
  rw [hW1] at hit'
  refine ⟨w.heap.size + 1, [{ target := .collected w.heap.size, args := #[] }], W1, { target := .fn (.func gf) lb, args := #[.func (.yield (w.heap.size + 1)) #[] #[]] }, W1, gf,
    #[.func (.yield (w.heap.size + 1)) #[] #[]] ++ lb, W1, ?_, ?_, ?_, ?_, ?_, ?_⟩
  · rw [← hW1]; exact run_enterLoop_outer _ _ _ _ _
  · simp only [resolve, hg]
    simp [go_sem]
  · intro f' hf'; trivial
  · simp [invoke, go_sem, eg]
  · intro h; cases h
  · refine callsIn_wide.2 (hit'.mono ?_)
    rintro e W2 ⟨⟨v, rfl⟩, ⟨hl, hP⟩ | ⟨hl, hP⟩⟩
    · exact ⟨none, _, run_endLoop hl (by simp), hdone _ _ hP (lt_blk hl)⟩
    · exact ⟨some .ret, _, run_endLoop hl (by simp), wpIn_wide.2 (hstop _ _ hP (lt_blk hl))⟩
end Go.Proofs.YtmeplpiamkaniaaGreat
namespace Go.Proofs.YtmeplpiamkaniaaGreat
set_option linter.unusedVariables false
set_option linter.unusedSimpArgs false
open Go.RowKit Go.Shelf
theorem OwnL.same {w w' : World} {base : Nat} {A : Option Addr} {n c : Nat} {l : List Lt} (h : OwnL w base A n c l) (hb : ∀ b, ob A = some b → w'.heap[b]? = w.heap[b]?) : OwnL w' base A n c l := by
  refine ⟨h.1, ⟨h.2.1.1, ?_⟩, h.2.2⟩
  rcases h.2.1.2 with a2 | ⟨g, cap, cur, hv, hbg, hh, r⟩
  · exact .inl a2
  · have hA : A = some ⟨g, 0, none⟩ := by injection hv
    exact .inr ⟨g, cap, cur, hv, hbg, (hb g (by rw [hA]; rfl)).trans hh, r⟩
structure DVL (b0 L D B1 B2 : Nat) (r : Loop) (W : World) (A1 : Option Addr) (n1 c1 : Nat) (l1 : List Lt) (A2 : Option Addr) (n2 c2 : Nat) (l2 : List Lt) : Prop where
  lt : L < b0 ∧ D < b0 ∧ B1 < b0 ∧ B2 < b0
  ne : B1 ≠ B2 ∧ B1 ≠ L ∧ B1 ≠ D ∧ B2 ≠ L ∧ B2 ≠ D ∧ D ≠ L
  l : W.heap[L]? = some (.loop r)
  d : W.heap[D]? = some (.deferred (some []))
  b1 : W.heap[B1]? = some (.cells #[.slice A1 n1 c1] 41 (0, 0))
  b2 : W.heap[B2]? = some (.cells #[.slice A2 n2 c2] 41 (0, 0))
  o1 : OwnL W b0 A1 n1 c1 l1
  o2 : OwnL W b0 A2 n2 c2 l2
  ap : apartS A1 A2
  p1 : ∀ y ∈ l1, possB y = true
  p2 : ∀ y ∈ l2, possB y = true
def XV (L D B1 B2 : Nat) (A1 A2 : Option Addr) (i : Nat) : Prop := i = L ∨ i = D ∨ i = B1 ∨ i = B2 ∨ ob A1 = some i ∨ ob A2 = some i
theorem XV.swap {L D B1 B2 : Nat} {A1 A2 : Option Addr} {i : Nat} (h : XV L D B1 B2 A1 A2 i) : XV L D B2 B1 A2 A1 i := by
  rcases h with h | h | h | h | h | h
  · exact .inl h
  · exact .inr (.inl h)
  · exact .inr (.inr (.inr (.inl h)))
  · exact .inr (.inr (.inl h))
  · exact .inr (.inr (.inr (.inr (.inr h))))
  · exact .inr (.inr (.inr (.inr (.inl h))))
section
variable {b0 L D B1 B2 : Nat} {r : Loop} {W : World} {A1 A2 : Option Addr} {n1 c1 n2 c2 : Nat} {l1 l2 : List Lt}
theorem DVL.swap (h : DVL b0 L D B1 B2 r W A1 n1 c1 l1 A2 n2 c2 l2) : DVL b0 L D B2 B1 r W A2 n2 c2 l2 A1 n1 c1 l1 :=
  ⟨⟨h.lt.1, h.lt.2.1, h.lt.2.2.2, h.lt.2.2.1⟩, ⟨h.ne.1.symm, h.ne.2.2.2.1, h.ne.2.2.2.2.1, h.ne.2.1, h.ne.2.2.1, h.ne.2.2.2.2.2⟩, h.l, h.d, h.b2, h.b1, h.o2, h.o1, h.ap.symm, h.p2, h.p1⟩
theorem DVL.xlt (h : DVL b0 L D B1 B2 r W A1 n1 c1 l1 A2 n2 c2 l2) {i : Nat} (hi : XV L D B1 B2 A1 A2 i) : i < W.heap.size := by
  rcases hi with rfl | rfl | rfl | rfl | hi | hi
  · exact lt_blk h.l
  · exact lt_blk h.d
  · exact lt_blk h.b1
  · exact lt_blk h.b2
  · exact (h.o1.ltN i hi).2
  · exact (h.o2.ltN i hi).2
theorem DVL.keep (h : DVL b0 L D B1 B2 r W A1 n1 c1 l1 A2 n2 c2 l2) {W' : World} (hk : ∀ i, XV L D B1 B2 A1 A2 i → W'.heap[i]? = W.heap[i]?) : DVL b0 L D B1 B2 r W' A1 n1 c1 l1 A2 n2 c2 l2 :=
  ⟨h.lt, h.ne, (hk _ (.inl rfl)).trans h.l, (hk _ (.inr (.inl rfl))).trans h.d, (hk _ (.inr (.inr (.inl rfl)))).trans h.b1, (hk _ (.inr (.inr (.inr (.inl rfl))))).trans h.b2,
    h.o1.same fun b hb => hk b (.inr (.inr (.inr (.inr (.inl hb))))), h.o2.same fun b hb => hk b (.inr (.inr (.inr (.inr (.inr hb))))), h.ap, h.p1, h.p2⟩
theorem DVL.step (h : DVL b0 L D B1 B2 r W A1 n1 c1 l1 A2 n2 c2 l2) (hb0 : b0 ≤ W.heap.size) {o : Obj} {r' : Loop} {V4 : World} {A' : Option Addr} {n' c' : Nat} {l' : List Lt} (hO : OwnL V4 b0 A' n' c' l') (hG : ((W.alloc o).putObj L (.loop r')).grownBy V4 (ob A1))
    (hor : ob A' = ob A1 ∨ ∀ b, ob A' = some b → ((W.alloc o).putObj L (.loop r')).heap.size ≤ b) (hp : ∀ y ∈ l', possB y = true) :
    (V4.setCell ⟨B1, 0, none⟩ (.slice A' n' c')).heap[L]? = some (.loop r') ∧ DVL b0 L D B1 B2 r ((V4.setCell ⟨B1, 0, none⟩ (.slice A' n' c')).putObj L (.loop r)) A' n' c' l' A2 n2 c2 l2 ∧
      Ex (XV L D B1 B2 A1 A2) W ((V4.setCell ⟨B1, 0, none⟩ (.slice A' n' c')).putObj L (.loop r)) ∧ ∀ i, XV L D B1 B2 A' A2 i → XV L D B1 B2 A1 A2 i ∨ W.heap.size ≤ i := by
  obtain ⟨q1, q2, q3, q4⟩ := h.lt
  obtain ⟨m1, m2, m3, m4, m5, m6⟩ := h.ne
  have hA1 : ∀ b, ob A1 = some b → b0 ≤ b := fun b hb => (h.o1.ltN b hb).1
  have hA' : ∀ b, ob A' = some b → b0 ≤ b := fun b hb => (hO.ltN b hb).1
  have hVs : ((W.alloc o).putObj L (.loop r')).heap.size = W.heap.size + 1 := by rw [World.putObj_size, World.size_alloc]
  have x0 : Ex (fun i => i = L) W ((W.alloc o).putObj L (.loop r')) := ((Ex.refl (fun i => i = L) W).alloc o).put L _ (.inr rfl)
  have x1 : Ex (fun i => i = L ∨ ob A1 = some i) W V4 := (x0.mono (Z := fun i => i = L ∨ ob A1 = some i) (fun _ _ x => .inl x)).grown hG (fun k hk => .inr (.inr hk))
  have x2 : Ex (fun i => i = L ∨ i = B1 ∨ ob A1 = some i) W (V4.setCell ⟨B1, 0, none⟩ (.slice A' n' c')) :=
    (x1.mono (Z := fun i => i = L ∨ i = B1 ∨ ob A1 = some i) (fun _ _ x => x.elim .inl (fun x => .inr (.inr x)))).setCell ⟨B1, 0, none⟩ (.inr (.inr (.inl rfl))) _
  have x3 : Ex (fun i => i = L ∨ i = B1 ∨ ob A1 = some i) W ((V4.setCell ⟨B1, 0, none⟩ (.slice A' n' c')).putObj L (.loop r)) := x2.put L _ (.inr (.inl rfl))
  have hl0 : ((W.alloc o).putObj L (.loop r')).heap[L]? = some (.loop r') := World.putObj_heap_same (by rw [World.size_alloc]; omega)
  have hl4 : V4.heap[L]? = some (.loop r') := (hG.block L (by omega) (fun e => by have := hA1 L e.symm; omega)).trans hl0
  have hb4 : V4.heap[B1]? = some (.cells #[.slice A1 n1 c1] 41 (0, 0)) := (x1.block B1 (lt_blk h.b1) (fun x => by
    rcases x with x | x
    · exact m2 x
    · have := hA1 B1 x; omega)).trans h.b1
  have hl5 : (V4.setCell ⟨B1, 0, none⟩ (.slice A' n' c')).heap[L]? = some (.loop r') := (Below.heap_setCell _ _ _ _ (fun e => m2 e.symm)).trans hl4
  refine ⟨hl5, ⟨h.lt, h.ne, ?_, ?_, ?_, ?_, ?_, ?_, ?_, hp, h.p2⟩, x3.mono (fun i _ x => ?_), fun i hi => ?_⟩
  · exact World.putObj_heap_same (lt_blk hl5)
  · exact (x3.block D (lt_blk h.d) (fun x => by
      rcases x with x | x | x
      · exact m6 x
      · exact m3 x.symm
      · have := hA1 D x; omega)).trans h.d
  · rw [World.putObj_heap_other m2]
    exact heap_setCell_same _ _ 0 _ _ _ hb4
  · exact (x3.block B2 (lt_blk h.b2) (fun x => by
      rcases x with x | x | x
      · exact m4 x
      · exact m1 x.symm
      · have := hA1 B2 x; omega)).trans h.b2
  · refine hO.same fun b hb => ?_
    have := hA' b hb
    rw [World.putObj_heap_other (by omega), Below.heap_setCell _ _ _ _ (by show b ≠ B1; omega)]
  · exact h.o2.ex x3 (fun b hb x => by
      have := (h.o2.ltN b hb).1
      rcases x with x | x | x
      · omega
      · omega
      · exact h.ap b x hb)
  · intro b hb hb2
    rcases hor with e | e
    · exact h.ap b (e ▸ hb) hb2
    · have := e b hb
      have := (h.o2.ltN b hb2).2
      omega
  · rcases x with x | x | x
    · exact .inl x
    · exact .inr (.inr (.inl x))
    · exact .inr (.inr (.inr (.inr (.inl x))))
  · rcases hi with hi | hi | hi | hi | hi | hi
    · exact .inl (.inl hi)
    · exact .inl (.inr (.inl hi))
    · exact .inl (.inr (.inr (.inl hi)))
    · exact .inl (.inr (.inr (.inr (.inl hi))))
    · rcases hor with e | e
      · exact .inl (.inr (.inr (.inr (.inr (.inl (e ▸ hi))))))
      · right
        have := e i hi
        omega
    · exact .inl (.inr (.inr (.inr (.inr (.inr hi)))))
end
def sel (b : Bool) (ps : List (Lt × Bool)) : List Lt := (ps.filter fun p => p.2 == b).map Prod.fst
theorem sel_app (b : Bool) (ps qs : List (Lt × Bool)) : sel b (ps ++ qs) = sel b ps ++ sel b qs := by simp [sel]
theorem sel_hit (b : Bool) (ps : List (Lt × Bool)) (x : Lt) : putL [] (sel b (ps ++ [(x, b)])) = addL (putL [] (sel b ps)) x := by
  rw [sel_app, show sel b [(x, b)] = [x] by simp [sel], putL_snoc]
theorem sel_miss (b : Bool) (ps : List (Lt × Bool)) (x : Lt) : putL [] (sel (!b) (ps ++ [(x, b)])) = putL [] (sel (!b) ps) := by
  rw [sel_app, show sel (!b) [(x, b)] = [] by cases b <;> simp [sel], List.append_nil]
theorem putL_len (l s : List Lt) : (putL s l).length ≤ s.length + l.length := by
  induction l generalizing s with
  | nil => simp [putL]
  | cons x l ih =>
    have h1 := ih (addL s x)
    have h2 := add_len s x
    rw [putL_cons, List.length_cons]
    omega
theorem sel_len (b : Bool) (ps : List (Lt × Bool)) : (putL [] (sel b ps)).length ≤ ps.length := by
  have h1 := putL_len (sel b ps) []
  have h2 : (sel b ps).length ≤ ps.length := by rw [sel, List.length_map]; exact List.length_filter_le _ _
  simp only [List.length_nil] at h1
  omega
def JV (b0 L D B1 B2 : Nat) (r : Loop) (ps : List (Lt × Bool)) (X : Nat → Prop) (W : World) : Prop :=
  ∃ A1 n1 c1 A2 n2 c2, DVL b0 L D B1 B2 r W A1 n1 c1 (putL [] (sel true ps)) A2 n2 c2 (putL [] (sel false ps)) ∧ X = XV L D B1 B2 A1 A2
end Go.Proofs.YtmeplpiamkaniaaGreat
namespace Go.Proofs.YtmeplpiamkaniaaGreat
set_option linter.unusedVariables false
set_option linter.unusedSimpArgs false
open Go.RowKit Go.Shelf
attribute [local go_sem] Oper.semAt_some
theorem results_cell2 {fn : Func} {t u : Tmp} {T : TypeId} (h : fn.results = #[.cell t T, .cell u T]) {tmps : Array Value} {P : Program} {w : World} {b1 b2 : Nat} {v1 v2 : Value} (h1 : tmps.getD t undef = .pointer (some ⟨b1, 0, none⟩)) (h2 : tmps.getD u undef = .pointer (some ⟨b2, 0, none⟩))
    (l1 : (loadVar T ⟨b1, 0, none⟩).run P w = .ok v1 w) (l2 : (loadVar T ⟨b2, 0, none⟩).run P w = .ok v2 w) : (results fn tmps).run P w = .ok (.tuple #[v1, v2]) w := by
  have h1' : tmps[t]?.getD undef = .pointer (some ⟨b1, 0, none⟩) := by simpa using h1
  have h2' : tmps[u]?.getD undef = .pointer (some ⟨b2, 0, none⟩) := by simpa using h2
  simp [results, h, h1', h2', l1, l2, asAddr, Result.andThen]
theorem loadVar_lots {w : World} {b : Nat} {A : Option Addr} {n c : Nat} (h : w.cell? ⟨b, 0, none⟩ = some (.slice A n c)) : (loadVar 41 ⟨b, 0, none⟩).run Tryz.prog w = .ok (.slice A n c) w := by
  simp [loadVar, Tryz.isAgg41, go_sem, h]
def RetDiv (w : World) (Y : Nat → Prop) (l1 l2 : List Lt) (e : Ending) (w' : World) : Prop :=
  ∃ A1 n1 c1 A2 n2 c2, e = .returned (.tuple #[.slice A1 n1 c1, .slice A2 n2 c2]) ∧ OwnL w' w.heap.size A1 n1 c1 l1 ∧ OwnL w' w.heap.size A2 n2 c2 l2 ∧ apartS A1 A2 ∧ (∀ y ∈ l1, possB y = true) ∧ (∀ y ∈ l2, possB y = true) ∧ Ex Y w w'
set_option maxHeartbeats 8000000 in
set_option maxRecDepth 100000 in
theorem ldivide_c {gf : FuncId} {lb : List Value} {ks : List Int} {N : Nat} {Y : Nat → Prop} {Cn : Nat → World → Prop} (hC : Counter gf lb ks N Y Cn)
    (w : World) (A : Option Addr) (n c : Nat) (l : List Lt) (hA : LotsAt w A n c l) (hAY : 0 < n → ∀ b, ob A = some b → b < N ∧ ¬ Y b) (hp : ∀ x ∈ l, possB x = true) (hks : ks.length = n) (hk : ∀ (i : Nat) (x : Lt) (k : Int), l[i]? = some x → ks[i]? = some k → 0 ≤ k ∧ k ≤ x.2.2) (hN : N ≤ w.heap.size) (hn : n ≤ 100000) (hc0 : Cn 0 w) :
    Calls Tryz.prog 60 #[.slice A n c, .func (.func gf) #[] lb.toArray] w (RetDiv w Y (putL [] (sel true (pcs l ks))) (putL [] (sel false (pcs l ks)))) := by
  have HC := Lib.hid hC
  have HAY := Lib.hid hAY
  have HP := Lib.hid hp
  have HK := Lib.hid (And.intro hks hk)
  have HC0 := Lib.hid hc0
  clear hC hAY hp hks hk hc0
  refine (callsIn_wide (n := 3)).1 ?_
  refine callsIn_of_wp_marks Tryz.func60 rfl trivial ?_ rfl
  simp only [Tryz.ntmps60, List.size_toArray, List.length_cons, List.length_nil, Nat.reduceAdd, Nat.reduceSub, Array.replicate_succ, Array.replicate_zero, List.push_toArray, List.append_toArray, List.nil_append, List.cons_append]
  gi_wp2_with (refine ⟨trivial, ?_⟩; gi_at_call 94; refine (callsIn_wide.2 (pieces_c _ _ A n c gf lb _ rfl rfl)).mono ?_; rintro e w' ⟨rfl, rfl⟩)
  obtain ⟨w2, hw2⟩ : ∃ w2, ((((w.alloc (.cells #[.slice none 0 0] 41)).alloc (.cells #[.slice none 0 0] 41)).alloc (.cells #[.slice A n c] 41)).alloc (.cells #[.func (.func gf) #[] lb.toArray] 97)) = w2 := ⟨_, rfl⟩
  have hEw : E w w2 := by rw [← hw2]; exact ((((E.refl w).alloc _).alloc _).alloc _).alloc _
  have hz2 : w2.heap.size = w.heap.size + 4 := by rw [← hw2]; simp
  have hbt : w2.heap[w.heap.size]? = some (.cells #[.slice none 0 0] 41 (0, 0)) := by
    rw [← hw2, Below.heap_alloc _ _ _ (by simp only [World.size_alloc]; omega), Below.heap_alloc _ _ _ (by simp only [World.size_alloc]; omega), Below.heap_alloc _ _ _ (by simp)]; exact heap_alloc_new _ _
  have hbl : w2.heap[w.heap.size + 1]? = some (.cells #[.slice none 0 0] 41 (0, 0)) := by
    rw [← hw2, Below.heap_alloc _ _ _ (by simp only [World.size_alloc]; omega), Below.heap_alloc _ _ _ (by simp)]
    have := heap_alloc_new (w.alloc (.cells #[.slice none 0 0] 41)) (.cells #[.slice none 0 0] 41)
    rw [World.size_alloc] at this; exact this
  have hba : w2.heap[w.heap.size + 1 + 1]? = some (.cells #[.slice A n c] 41 (0, 0)) := by
    rw [← hw2, Below.heap_alloc _ _ _ (by simp)]
    have := heap_alloc_new ((w.alloc (.cells #[.slice none 0 0] 41)).alloc (.cells #[.slice none 0 0] 41)) (.cells #[.slice A n c] 41)
    rw [World.size_alloc, World.size_alloc] at this; exact this
  have hbc : w2.heap[w.heap.size + 1 + 1 + 1]? = some (.cells #[.func (.func gf) #[] lb.toArray] 97 (0, 0)) := by
    rw [← hw2]
    have := heap_alloc_new (((w.alloc (.cells #[.slice none 0 0] 41)).alloc (.cells #[.slice none 0 0] 41)).alloc (.cells #[.slice A n c] 41)) (.cells #[.func (.func gf) #[] lb.toArray] 97)
    rw [World.size_alloc, World.size_alloc, World.size_alloc] at this; exact this
  rw [hw2]
  clear hw2
  refine wpIn_wide.2 (wp_rangeX (gf := 127) (lb := #[ptr (w.heap.size + 1 + 1), ptr (w.heap.size + 1 + 1 + 1)]) rfl Tryz.call127
    (Post := fun W' => ∃ A1 n1 c1 A2 n2 c2, W'.heap[w.heap.size]? = some (.cells #[.slice A1 n1 c1] 41 (0, 0)) ∧ W'.heap[w.heap.size + 1]? = some (.cells #[.slice A2 n2 c2] 41 (0, 0)) ∧ W'.heap[w2.heap.size]? = some (.deferred (some [])) ∧ OwnL W' (w2.heap.size + 2) A1 n1 c1 (putL [] (sel true (pcs l ks))) ∧ OwnL W' (w2.heap.size + 2) A2 n2 c2 (putL [] (sel false (pcs l ks))) ∧ apartS A1 A2 ∧ (∀ y ∈ putL [] (sel true (pcs l ks)), possB y = true) ∧ (∀ y ∈ putL [] (sel false (pcs l ks)), possB y = true) ∧ Ex Y w W')
    (PostX := fun _ => False) ?hit ?done (fun _ _ h => h.elim))
  case hit =>
    intro r hr1 hr2 hr3 hr4 hr5 hr6
    obtain ⟨W1, hW1⟩ : ∃ W1, (w2.alloc (.deferred (some []))).alloc (.loop r) = W1 := ⟨_, rfl⟩
    have hE21 : E w2 W1 := by rw [← hW1]; exact ((E.refl _).alloc _).alloc _
    have hz1 : W1.heap.size = w2.heap.size + 2 := by rw [← hW1, World.size_alloc, World.size_alloc]
    have hD1 : W1.heap[w2.heap.size]? = some (.deferred (some [])) := by rw [← hW1, Below.heap_alloc _ _ _ (by simp)]; exact heap_alloc_new _ _
    have hL1 : W1.heap[w2.heap.size + 1]? = some (.loop r) := by
      have := heap_alloc_new (w2.alloc (.deferred (some []))) (.loop r)
      rw [World.size_alloc, hW1] at this; exact this
    rw [hW1]
    clear hW1
    obtain ⟨D, hDd⟩ : ∃ D, w2.heap.size = D := ⟨_, rfl⟩
    obtain ⟨L, hLd⟩ : ∃ L, w2.heap.size + 1 = L := ⟨_, rfl⟩
    have hq1 : w.heap.size + 4 = D := by omega
    have hq2 : D + 1 = L := by omega
    rw [hLd] at hL1
    rw [hDd] at hD1
    have hJ : Eats L N (JV (L + 1) L D w.heap.size (w.heap.size + 1) r) := by
      refine ⟨?_, ?_, ?_⟩
      · rintro ps X W ⟨A1, n1, c1, A2, n2, c2, hD, rfl⟩ i hi
        refine ⟨?_, hD.xlt hi⟩
        rcases hi with rfl | rfl | rfl | rfl | hi | hi
        · omega
        · omega
        · omega
        · omega
        · have := (hD.o1.ltN i hi).1; omega
        · have := (hD.o2.ltN i hi).1; omega
      · rintro ps X W W' ⟨A1, n1, c1, A2, n2, c2, hD, rfl⟩ hk
        exact ⟨A1, n1, c1, A2, n2, c2, hD.keep hk, rfl⟩
      intro ps X W x f m hj hps hpx hwx
      cases f
      · -- false
        obtain ⟨A1, n1, c1, A2, n2, c2, hD, rfl⟩ := hj
        have hlW : W.heap.size ≠ L := by have := lt_blk hD.l; omega
        have hszL : L < W.heap.size := lt_blk hD.l
        refine (yield_round (W2 := W.alloc (.cells #[.int .i64 x.1, .int .i64 x.2.1, .int .i64 x.2.2] 30)) (a₁ := { tmps := #[.slice A n c, .func (.func gf) #[] lb.toArray, undef, undef, .pointer (some ⟨w.heap.size, 0, none⟩), .pointer (some ⟨w.heap.size + 1, 0, none⟩), .pointer (some ⟨W.heap.size, 0, none⟩), .bool false, .slice A n c, .func (.func gf) #[] lb.toArray, .func (.func 127) #[] #[ptr (w.heap.size + 1 + 1), ptr (w.heap.size + 1 + 1 + 1)], .agg #[.int .i64 x.1, .int .i64 x.2.1, .int .i64 x.2.2], .bool false, undef, undef, undef, undef, undef, undef, undef, undef, undef], defers := [] })
          hD.l (((E.refl W).alloc _).block hszL |>.trans hD.l) hr1 hr2 (by rw [hr4]; rfl) (R := fun W' => ∃ X', JV (L + 1) L D w.heap.size (w.heap.size + 1) r (ps ++ [(x, false)]) X' W' ∧ Ex (XV L D w.heap.size (w.heap.size + 1) A1 A2) W W' ∧ ∀ i, X' i → XV L D w.heap.size (w.heap.size + 1) A1 A2 i ∨ W.heap.size ≤ i) (Rx := fun _ => False) ?assign ?body).mono (fun e W' h => ?post)
        case post =>
          rcases h with h | ⟨_, h⟩
          · exact h
          · exact h.elim
        case assign =>
          intro K hK
          unfold ltV
          rw [hr3, hr4, hr5]
          gi_wp2
          exact hK
        case body =>
          obtain ⟨r', hr'⟩ : ∃ r' : Loop, { r with state := .busy } = r' := ⟨_, rfl⟩
          rw [hr', hr6]
          clear hr'
          have hD := hD.swap
          obtain ⟨V0, hV0⟩ : ∃ V0, (W.alloc (.cells #[.int .i64 x.1, .int .i64 x.2.1, .int .i64 x.2.2] 30)).putObj L (.loop r') = V0 := ⟨_, rfl⟩
          have hX0 : Ex (fun i => i = L) W V0 := by rw [← hV0]; exact ((Ex.refl (fun i => i = L) W).alloc _).put L _ (.inr rfl)
          have hz0 : V0.heap.size = W.heap.size + 1 := by rw [← hV0, World.putObj_size, World.size_alloc]
          have hbx : V0.heap[W.heap.size]? = some (.cells #[.int .i64 x.1, .int .i64 x.2.1, .int .i64 x.2.2] 30 (0, 0)) := by
            rw [← hV0, World.putObj_heap_other (by have := lt_blk hD.l; omega)]; exact heap_alloc_new _ _
          have hb1 : V0.heap[w.heap.size + 1]? = _ := (hX0.block _ (lt_blk hD.b1) hD.ne.2.1).trans hD.b1
          have hO1 : OwnL V0 (L + 1) A2 n2 c2 (putL [] (sel false ps)) := hD.o1.ex hX0 (fun b hb e => by have := (hD.o1.ltN b hb).1; omega)
          have HP := Lib.hid (put_c x A2 n2 c2 (L + 1) _ V0 hO1 hD.p1 hpx hwx (by omega) (by have := sel_len false ps; have := hD.o1.1; omega))
          have HSt := Lib.hid (fun (V4 : World) (A' : Option Addr) (n' c' : Nat) (hO : OwnL V4 (L + 1) A' n' c' (addL (putL [] (sel false ps)) x)) (hG : V0.grownBy V4 (ob A2)) (hor : ob A' = ob A2 ∨ ∀ b, ob A' = some b → V0.heap.size ≤ b) =>
            hD.step (by omega) (o := .cells #[.int .i64 x.1, .int .i64 x.2.1, .int .i64 x.2.2] 30) (r' := r') (V4 := V4) hO (by rw [hV0]; exact hG) (by rw [hV0]; exact hor) (poss_add hD.p1 hpx))
          have hltB := lt_blk hb1
          have hA1b : ∀ k, ob A2 = some k → L + 1 ≤ k := fun k hk => (hD.o1.ltN k hk).1
          have hLB1 := hD.lt.2.2.1
          have cb := (cell_one hb1).1
          have cx := And.intro (cell_of_row _ _ 0 _ _ _ hbx) (And.intro (cell_of_row _ _ 1 _ _ _ hbx) (cell_of_row _ _ 2 _ _ _ hbx))
          simp only [List.getElem?_toArray, List.getElem?_cons_zero, List.getElem?_cons_succ] at cx
          obtain ⟨cx0, cx1, cx2⟩ := cx
          have HB1 := Lib.hid hb1
          rw [hV0]
          clear hV0 hX0 hbx hD hO1 hb1
          unfold ltV at HP
          gi_wp2_with (refine ⟨trivial, (fun h => absurd h (by decide)), ?_⟩; gi_at_call 95; refine (CallsIn.inRound L (callsIn_wide.2 HP.out)).mono ?_; rintro e V4 ⟨A', n', c', rfl, hO4, hG4, hor4⟩; have hb4 : V4.heap[w.heap.size + 1]? = _ := (hG4.block (w.heap.size + 1) hltB (fun e => by have := hA1b (w.heap.size + 1) e.symm; omega)).trans HB1.out; have c4 := (cell_one hb4).1; have f4 := (cell_one hb4).2)
          obtain ⟨g1, g2, g3, g4⟩ := HSt.out V4 A' n' c' hO4 hG4 hor4
          exact ⟨g1, _, ⟨A1, n1, c1, A', n', c', by rw [sel_hit false ps x, show true = !false from rfl, sel_miss false ps x]; exact g2.swap, rfl⟩, g3.mono (fun _ _ h => h.swap), fun i hi => (g4 i hi.swap).imp XV.swap id⟩
      · -- true
        obtain ⟨A1, n1, c1, A2, n2, c2, hD, rfl⟩ := hj
        have hlW : W.heap.size ≠ L := by have := lt_blk hD.l; omega
        have hszL : L < W.heap.size := lt_blk hD.l
        refine (yield_round (W2 := W.alloc (.cells #[.int .i64 x.1, .int .i64 x.2.1, .int .i64 x.2.2] 30)) (a₁ := { tmps := #[.slice A n c, .func (.func gf) #[] lb.toArray, undef, undef, .pointer (some ⟨w.heap.size, 0, none⟩), .pointer (some ⟨w.heap.size + 1, 0, none⟩), .pointer (some ⟨W.heap.size, 0, none⟩), .bool true, .slice A n c, .func (.func gf) #[] lb.toArray, .func (.func 127) #[] #[ptr (w.heap.size + 1 + 1), ptr (w.heap.size + 1 + 1 + 1)], .agg #[.int .i64 x.1, .int .i64 x.2.1, .int .i64 x.2.2], .bool true, undef, undef, undef, undef, undef, undef, undef, undef, undef], defers := [] })
          hD.l (((E.refl W).alloc _).block hszL |>.trans hD.l) hr1 hr2 (by rw [hr4]; rfl) (R := fun W' => ∃ X', JV (L + 1) L D w.heap.size (w.heap.size + 1) r (ps ++ [(x, true)]) X' W' ∧ Ex (XV L D w.heap.size (w.heap.size + 1) A1 A2) W W' ∧ ∀ i, X' i → XV L D w.heap.size (w.heap.size + 1) A1 A2 i ∨ W.heap.size ≤ i) (Rx := fun _ => False) ?assign ?body).mono (fun e W' h => ?post)
        case post =>
          rcases h with h | ⟨_, h⟩
          · exact h
          · exact h.elim
        case assign =>
          intro K hK
          unfold ltV
          rw [hr3, hr4, hr5]
          gi_wp2
          exact hK
        case body =>
          obtain ⟨r', hr'⟩ : ∃ r' : Loop, { r with state := .busy } = r' := ⟨_, rfl⟩
          rw [hr', hr6]
          clear hr'
          obtain ⟨V0, hV0⟩ : ∃ V0, (W.alloc (.cells #[.int .i64 x.1, .int .i64 x.2.1, .int .i64 x.2.2] 30)).putObj L (.loop r') = V0 := ⟨_, rfl⟩
          have hX0 : Ex (fun i => i = L) W V0 := by rw [← hV0]; exact ((Ex.refl (fun i => i = L) W).alloc _).put L _ (.inr rfl)
          have hz0 : V0.heap.size = W.heap.size + 1 := by rw [← hV0, World.putObj_size, World.size_alloc]
          have hbx : V0.heap[W.heap.size]? = some (.cells #[.int .i64 x.1, .int .i64 x.2.1, .int .i64 x.2.2] 30 (0, 0)) := by
            rw [← hV0, World.putObj_heap_other (by have := lt_blk hD.l; omega)]; exact heap_alloc_new _ _
          have hb1 : V0.heap[w.heap.size]? = _ := (hX0.block _ (lt_blk hD.b1) hD.ne.2.1).trans hD.b1
          have hO1 : OwnL V0 (L + 1) A1 n1 c1 (putL [] (sel true ps)) := hD.o1.ex hX0 (fun b hb e => by have := (hD.o1.ltN b hb).1; omega)
          have HP := Lib.hid (put_c x A1 n1 c1 (L + 1) _ V0 hO1 hD.p1 hpx hwx (by omega) (by have := sel_len true ps; have := hD.o1.1; omega))
          have HSt := Lib.hid (fun (V4 : World) (A' : Option Addr) (n' c' : Nat) (hO : OwnL V4 (L + 1) A' n' c' (addL (putL [] (sel true ps)) x)) (hG : V0.grownBy V4 (ob A1)) (hor : ob A' = ob A1 ∨ ∀ b, ob A' = some b → V0.heap.size ≤ b) =>
            hD.step (by omega) (o := .cells #[.int .i64 x.1, .int .i64 x.2.1, .int .i64 x.2.2] 30) (r' := r') (V4 := V4) hO (by rw [hV0]; exact hG) (by rw [hV0]; exact hor) (poss_add hD.p1 hpx))
          have hltB := lt_blk hb1
          have hA1b : ∀ k, ob A1 = some k → L + 1 ≤ k := fun k hk => (hD.o1.ltN k hk).1
          have hLB1 := hD.lt.2.2.1
          have cb := (cell_one hb1).1
          have cx := And.intro (cell_of_row _ _ 0 _ _ _ hbx) (And.intro (cell_of_row _ _ 1 _ _ _ hbx) (cell_of_row _ _ 2 _ _ _ hbx))
          simp only [List.getElem?_toArray, List.getElem?_cons_zero, List.getElem?_cons_succ] at cx
          obtain ⟨cx0, cx1, cx2⟩ := cx
          have HB1 := Lib.hid hb1
          rw [hV0]
          clear hV0 hX0 hbx hD hO1 hb1
          unfold ltV at HP
          gi_wp2_with (refine ⟨trivial, (fun h => absurd h (by decide)), ?_⟩; gi_at_call 95; refine (CallsIn.inRound L (callsIn_wide.2 HP.out)).mono ?_; rintro e V4 ⟨A', n', c', rfl, hO4, hG4, hor4⟩; have hb4 : V4.heap[w.heap.size]? = _ := (hG4.block w.heap.size hltB (fun e => by have := hA1b w.heap.size e.symm; omega)).trans HB1.out; have c4 := (cell_one hb4).1; have f4 := (cell_one hb4).2)
          obtain ⟨g1, g2, g3, g4⟩ := HSt.out V4 A' n' c' hO4 hG4 hor4
          exact ⟨g1, _, ⟨A', n', c', A2, n2, c2, by rw [sel_hit true ps x, show false = !true from rfl, sel_miss true ps x]; exact g2, rfl⟩, g3, g4⟩
    have h0 : JV (L + 1) L D w.heap.size (w.heap.size + 1) r [] (XV L D w.heap.size (w.heap.size + 1) none none) W1 :=
      ⟨none, 0, 0, none, 0, 0, ⟨⟨by omega, by omega, by omega, by omega⟩, ⟨by omega, by omega, by omega, by omega, by omega, by omega⟩, hL1, hD1, (hE21.block (by omega)).trans hbt, (hE21.block (by omega)).trans hbl, OwnL.nil _ _, OwnL.nil _ _, apart_none _, by simp [sel, putL], by simp [sel, putL]⟩, rfl⟩
    have hxv : ∀ i, XV L D w.heap.size (w.heap.size + 1) none none i → i = L ∨ i = D ∨ i = w.heap.size ∨ i = w.heap.size + 1 := fun i hi => by
      rcases hi with h | h | h | h | h | h
      · exact .inl h
      · exact .inr (.inl h)
      · exact .inr (.inr (.inl h))
      · exact .inr (.inr (.inr h))
      · cases h
      · cases h
    have hC1 := pieces1_c HC.out hJ W1 (w.heap.size + 1 + 1) (w.heap.size + 1 + 1 + 1) A n c l ((hA.e hEw).e hE21) HAY.out HP.out HK.out.1 HK.out.2 ((hE21.block (by omega)).trans hba) ((hE21.block (by omega)).trans hbc) (by omega) (by omega) hn _ h0
      (fun h => by rcases hxv _ h with h | h | h | h <;> omega) (fun h => by rcases hxv _ h with h | h | h | h <;> omega) (HC.out.keep 0 w W1 HC0.out (fun b hb => by rw [hE21.block (by omega), hEw.block (by omega)]))
    rw [hLd]
    refine (show Calls Tryz.prog 127 (#[.func (.yield L) #[] #[]] ++ #[ptr (w.heap.size + 1 + 1), ptr (w.heap.size + 1 + 1 + 1)]) W1 _ from hC1).mono ?_
    rintro e W' ⟨hv, X', ⟨A1, n1, c1, A2, n2, c2, hD, rfl⟩, hcn, hX, _⟩
    refine ⟨hv, .inl ⟨hD.l, A1, n1, c1, A2, n2, c2, hD.b1, hD.b2, by rw [hDd]; exact hD.d, hD.o1.rebase (by omega), hD.o2.rebase (by omega), hD.ap, hD.p1, hD.p2, ?_⟩⟩
    refine (Ex.of_e (X := fun _ => False) (hEw.trans hE21)).trans hX (fun _ _ x => x.elim) (fun i hi x => ?_)
    rcases x with x | x
    · rcases hxv i x with h | h | h | h <;> omega
    · exact x
  case done =>
    rintro W' o ⟨A1, n1, c1, A2, n2, c2, hb1, hb2, hd, hO1, hO2, hap, hp1, hp2, hE⟩ hlt
    have vX : Ex (fun i => i = w2.heap.size + 1) W' (W'.putObj (w2.heap.size + 1) o) := (Ex.refl (fun i => i = w2.heap.size + 1) W').put _ _ (.inr rfl)
    have v1 : (W'.putObj (w2.heap.size + 1) o).heap[w.heap.size]? = _ := (World.putObj_heap_other (by omega)).trans hb1
    have v2 : (W'.putObj (w2.heap.size + 1) o).heap[w.heap.size + 1]? = _ := (World.putObj_heap_other (by omega)).trans hb2
    have vD : (W'.putObj (w2.heap.size + 1) o).heap[w2.heap.size]? = _ := (World.putObj_heap_other (by omega)).trans hd
    have vO1 : OwnL (W'.putObj (w2.heap.size + 1) o) (w2.heap.size + 2) A1 n1 c1 _ := hO1.ex vX (fun b hb e => by have := (hO1.ltN b hb).1; omega)
    have vO2 : OwnL (W'.putObj (w2.heap.size + 1) o) (w2.heap.size + 2) A2 n2 c2 _ := hO2.ex vX (fun b hb e => by have := (hO2.ltN b hb).1; omega)
    have vE : Ex Y w (W'.putObj (w2.heap.size + 1) o) := hE.put _ _ (.inl (by omega))
    obtain ⟨V, hV⟩ : ∃ V, W'.putObj (w2.heap.size + 1) o = V := ⟨_, rfl⟩
    obtain ⟨D, hDd⟩ : ∃ D, w2.heap.size = D := ⟨_, rfl⟩
    have hDg : w.heap.size + 1 < D := by omega
    rw [hV] at v1 v2 vD vO1 vO2 vE ⊢
    rw [hDd] at vD vO1 vO2 ⊢
    obtain ⟨q1, f1⟩ := cell_one v1
    obtain ⟨q2, f2⟩ := cell_one v2
    clear hV hDd hlt hz2 hbt hbl hba hbc hb1 hb2 hd hO1 hO2 hE vX
    gi_wp2
    gi_region
    all_goals gi_wp2
    obtain ⟨V5, hV5⟩ : ∃ V5, ((V.setCell ⟨w.heap.size, 0, none⟩ (.slice A1 n1 c1)).setCell ⟨w.heap.size + 1, 0, none⟩ (.slice A2 n2 c2)).drew = V5 := ⟨_, rfl⟩
    have x5 : Ex (fun i => i = w.heap.size ∨ i = w.heap.size + 1) V V5 := by
      rw [← hV5]
      exact (((Ex.refl (fun i => i = w.heap.size ∨ i = w.heap.size + 1) V).setCell ⟨w.heap.size, 0, none⟩ (.inr (.inl rfl)) _).setCell ⟨w.heap.size + 1, 0, none⟩ (.inr (.inr rfl)) _).drew
    have s1 : V5.heap[w.heap.size]? = some (.cells #[.slice A1 n1 c1] 41 (0, 0)) := by
      rw [← hV5]
      exact (Below.heap_setCell _ _ _ _ (by show w.heap.size ≠ w.heap.size + 1; omega)).trans (heap_setCell_same _ _ 0 _ _ _ v1)
    have s2 : V5.heap[w.heap.size + 1]? = some (.cells #[.slice A2 n2 c2] 41 (0, 0)) := by
      rw [← hV5]
      exact heap_setCell_same _ _ 0 _ _ (.slice A2 n2 c2) ((Below.heap_setCell _ _ _ _ (by show w.heap.size + 1 ≠ w.heap.size; omega)).trans v2)
    have sD : V5.heap[D]? = some (.deferred (some [])) := (x5.block D (lt_blk vD) (by omega)).trans vD
    rw [hV5]
    clear hV5
    refine ⟨by simp, .inl ⟨_, _, rfl, run_takeDeferred sD, ?_⟩⟩
    have x6 : Ex (fun i => i = w.heap.size ∨ i = w.heap.size + 1 ∨ i = D) V (V5.putObj D (.deferred none)) := (x5.mono (Z := fun i => i = w.heap.size ∨ i = w.heap.size + 1 ∨ i = D) (fun _ _ x => x.elim .inl (fun x => .inr (.inl x)))).put _ _ (.inr (.inr (.inr rfl)))
    have r1 := (cell_one (show (V5.putObj D (.deferred none)).heap[w.heap.size]? = _ from (World.putObj_heap_other (by omega)).trans s1)).1
    have r2 := (cell_one (show (V5.putObj D (.deferred none)).heap[w.heap.size + 1]? = _ from (World.putObj_heap_other (by omega)).trans s2)).1
    refine ⟨_, results_cell2 rfl rfl rfl (loadVar_lots r1) (loadVar_lots r2), A1, n1, c1, A2, n2, c2, rfl, (vO1.ex x6 (fun b hb e => by have := (vO1.ltN b hb).1; omega)).rebase (by omega), (vO2.ex x6 (fun b hb e => by have := (vO2.ltN b hb).1; omega)).rebase (by omega), hap, hp1, hp2, ?_⟩
    exact vE.trans x6 (fun _ _ x => x) (fun i hi x => by omega)
end Go.Proofs.YtmeplpiamkaniaaGreat
namespace Go.Proofs.YtmeplpiamkaniaaGreat
set_option linter.unusedVariables false
set_option linter.unusedSimpArgs false
open Go.RowKit Go.Shelf
theorem sel_cons_t (x y : Lt) (ps : List (Lt × Bool)) : sel true ((x, true) :: (y, false) :: ps) = x :: sel true ps := by simp [sel]
theorem sel_cons_f (x y : Lt) (ps : List (Lt × Bool)) : sel false ((x, true) :: (y, false) :: ps) = y :: sel false ps := by simp [sel]
theorem firstK_range {n : Int} {l : List Lt} (h0 : 0 ≤ n) (hl : ∀ x ∈ l, 1 ≤ x.2.2) : ∀ (i : Nat) (x : Lt) (k : Int), l[i]? = some x → (firstK n l)[i]? = some k → 0 ≤ k ∧ k ≤ x.2.2 := fun i x k hx hk => by
  obtain ⟨h1, _⟩ := firstK_get (n := n) hx
  rw [hk] at h1
  injection h1 with h1
  have := leftK_range h0 hl i
  have := hl x (List.mem_of_getElem? hx)
  omega
theorem pcs_nonneg {l : List Lt} {ks : List Int} (b : Bool) (hk : ∀ (i : Nat) (x : Lt) (k : Int), l[i]? = some x → ks[i]? = some k → 0 ≤ k ∧ k ≤ x.2.2) : ∀ y ∈ sel b (pcs l ks), 0 ≤ y.2.2 := by
  induction l generalizing ks with
  | nil => simp [pcs, sel]
  | cons x l ih =>
    cases ks with
    | nil => simp [pcs, sel]
    | cons k ks =>
      have h0 := hk 0 x k (by simp) (by simp)
      have := ih (ks := ks) (fun i x k hx hk' => hk (i + 1) x k (by simpa using hx) (by simpa using hk'))
      intro y hy
      rw [pcs] at hy
      cases b
      · rw [sel_cons_f] at hy
        rcases List.mem_cons.1 hy with rfl | hy
        · show 0 ≤ x.2.2 - k; omega
        · exact this y hy
      · rw [sel_cons_t] at hy
        rcases List.mem_cons.1 hy with rfl | hy
        · exact h0.1
        · exact this y hy
theorem pcs_first {l : List Lt} {n : Int} (h0 : 0 ≤ n) (hl : ∀ x ∈ l, 1 ≤ x.2.2) : U (sel true (pcs l (firstK n l))) = (U l).take n.toNat ∧ U (sel false (pcs l (firstK n l))) = (U l).drop n.toNat := by
  induction l generalizing n with
  | nil => simp [pcs, sel, U_nil]
  | cons x l ih =>
    have hx := hl x List.mem_cons_self
    obtain ⟨i1, i2⟩ := ih (n := n - min n x.2.2) (by omega) (fun y hy => hl y (List.mem_cons_of_mem _ hy))
    rw [firstK, pcs, sel_cons_t, sel_cons_f, U_cons, U_cons, U_cons, i1, i2]
    have hc := ul_cut (f := x.1) (a := x.2.1) (n := x.2.2) (k := min n x.2.2) (by omega) (by omega)
    have hc : ul x = ul (x.1, x.2.1, min n x.2.2) ++ ul (x.1, x.2.1 + min n x.2.2, x.2.2 - min n x.2.2) := hc
    have e1 := ul_len (x.1, x.2.1, min n x.2.2)
    have e2 := ul_len x
    simp only at e1
    by_cases hn : n ≤ x.2.2
    · have hm : min n x.2.2 = n := by omega
      rw [hm] at hc e1 ⊢
      rw [show (n - n).toNat = 0 by omega, List.take_zero, List.append_nil, List.drop_zero, hc, List.append_assoc, List.take_append_of_le_length (by omega), List.take_of_length_le (by omega), List.drop_append_of_le_length (by omega), show (ul (x.1, x.2.1, n)).drop n.toNat = [] from List.drop_eq_nil_of_le (by omega), List.nil_append]
      exact ⟨rfl, rfl⟩
    · have hm : min n x.2.2 = x.2.2 := by omega
      rw [hm] at hc e1 ⊢
      have e3 : ul (x.1, x.2.1 + x.2.2, x.2.2 - x.2.2) = [] := ul_none (by simp only; omega)
      rw [e3, List.append_nil] at hc
      rw [e3, ← hc, List.nil_append, List.take_append, List.drop_append, show (ul x).take n.toNat = ul x from List.take_of_length_le (by omega), show (ul x).drop n.toNat = [] from List.drop_eq_nil_of_le (by omega), List.nil_append]
      have e4 : (n - x.2.2).toNat = n.toNat - (ul x).length := by omega
      rw [e4]
      exact ⟨rfl, rfl⟩
theorem put_first {l : List Lt} {n : Int} (h0 : 0 ≤ n) (hl : ∀ x ∈ l, 1 ≤ x.2.2) : putL [] (sel true (pcs l (firstK n l))) = glue ((U l).take n.toNat) ∧ putL [] (sel false (pcs l (firstK n l))) = glue ((U l).drop n.toNat) := by
  obtain ⟨h1, h2⟩ := pcs_first h0 hl
  have hk := firstK_range h0 hl
  exact ⟨by rw [putN_eq (pcs_nonneg true hk), h1], by rw [putN_eq (pcs_nonneg false hk), h2]⟩
def RetLE (w : World) (r : List Lt × Int) (e : Ending) (w' : World) : Prop := ∃ A n c, e = .returned (.tuple #[.slice A n c, .int .i64 r.2]) ∧ OwnL w' w.heap.size A n c r.1 ∧ E w w'
theorem RetLE.mk_ {w w' : World} {r : List Lt × Int} {A : Option Addr} {n c : Nat} {l : List Lt} {e : Int} (hr : r = (l, e)) (hO : OwnL w' w.heap.size A n c l) (hE : E w w') : RetLE w r (.returned (.tuple #[.slice A n c, .int .i64 e])) w' := ⟨A, n, c, by rw [hr], by rw [hr]; exact hO, hE⟩
theorem RetLE.none_ {w w' : World} {r : List Lt × Int} {e : Int} (hr : r = ([], e)) (hE : E w w') : RetLE w r (.returned (.tuple #[.slice none 0 0, .int .i64 e])) w' := RetLE.mk_ hr (OwnL.nil _ _) hE
theorem divide_first (n : Int) (A : Option Addr) (len c : Nat) (l : List Lt) (w : World) (bl bn : Nat) (h0 : 0 ≤ n) (h1 : n ≤ 1152921504606846976) (hl : ∀ x ∈ l, possB x = true) (hA : 0 < len → ∀ b, ob A = some b → b < bl) (hne : bl < bn) (hb : bn < w.heap.size) (hlen : len ≤ 100000) (hS : FuSt n A len c l bl bn 0 w) :
    Calls Tryz.prog 60 #[.slice A len c, .func (.func 93) #[] [ptr bn, ptr bl].toArray] w (RetDiv w (fun b => b = bn) (glue ((U l).take n.toNat)) (glue ((U l).drop n.toNat))) := by
  have hl1 : ∀ x ∈ l, 1 ≤ x.2.2 := fun x hx => (possB_iff.1 (hl x hx)).2.2.2.1
  obtain ⟨e1, e2⟩ := put_first h0 hl1
  rw [← e1, ← e2]
  exact ldivide_c (firstUnits_counter n A len c l bl bn h0 h1 hl hA hne) w A len c l hS.2.2 (fun hl0 b hb => ⟨by have := hA hl0 b hb; omega, by have := hA hl0 b hb; omega⟩) hl (by rw [firstK_len, hS.2.2.len]) (firstK_range h0 hl1) (by omega) hlen hS
theorem glue_poss {us : List Un} (h : ∀ u ∈ us, 0 ≤ u.1 ∧ 0 ≤ u.2 ∧ u.2 < 1099511627776) : ∀ x ∈ glue us, possB x = true := fun x hx => by
  have hg := (glue_glued us).mem x hx
  have hu : ∀ u ∈ ul x, u ∈ us := fun u hu => by rw [← U_glue us]; exact mem_U.2 ⟨x, hx, hu⟩
  have h1 := h (x.1, x.2.1) (hu _ (mem_ul.2 ⟨rfl, by simp only; omega, by simp only; omega⟩))
  have h2 := h (x.1, x.2.1 + x.2.2 - 1) (hu _ (mem_ul.2 ⟨rfl, by simp only; omega, by simp only; omega⟩))
  simp only at h1 h2
  rw [possB_iff]
  omega
theorem U_range {l : List Lt} (hl : ∀ x ∈ l, possB x = true) : ∀ u ∈ U l, 0 ≤ u.1 ∧ 0 ≤ u.2 ∧ u.2 < 1099511627776 := fun u hu => by
  obtain ⟨x, hx, hu⟩ := mem_U.1 hu
  have h1 := possB_iff.1 (hl x hx)
  have h2 := mem_ul.1 hu
  omega
end Go.Proofs.YtmeplpiamkaniaaGreat
namespace Go.Proofs.YtmeplpiamkaniaaGreat
set_option linter.unusedVariables false
set_option linter.unusedSimpArgs false
open Go.RowKit
set_option maxHeartbeats 2000000 in
theorem spSlice_c (A : Option Addr) (n c : Nat) (l : List Lt) (a0 m0 : Int) (w : World) (h : LotsAt w A n c l) (hp : ∀ x ∈ l, possB x = true) (ha : 0 ≤ a0) (hm : 0 ≤ m0) (hs : a0 + m0 ≤ 4611686018427387904) (hn : n ≤ 100000) :
    Calls Tryz.prog 98 #[.slice A n c, .int .i64 a0, .int .i64 m0] w (RetL w (glue (cutU l a0 m0))) := by
  have hm63 := h.n63
  have HL := Lib.hid h.len
  have HP := Lib.hid hp
  have HU := Lib.hid (U_range hp)
  clear hp
  go_enter Tryz.func98, Tryz.ntmps98
  go_wp2_with fail
  go_loopw [1, 2, 7, 13] (fun t1 t2 t7 ti wr => ∃ (k n1 c1 : Nat) (A1 : Option Addr) (a m : Int) (us : List Un), k ≤ n ∧ ti = .int .i64 k ∧ t1 = .int .i64 a ∧ t2 = .int .i64 m ∧ t7 = .slice A1 n1 c1 ∧ OwnL wr w.heap.size A1 n1 c1 (glue us) ∧ n1 ≤ k ∧ E w wr ∧ 0 ≤ a ∧ 0 ≤ m ∧ a + m ≤ 4611686018427387904 ∧ Hid (us ++ cutU (l.drop k) a m = cutU l a0 m0)) (fun _ _ _ ti _ => n - (intOf ti).toNat)
  case atStart => exact ⟨0, 0, 0, none, a0, m0, [], Nat.zero_le _, rfl, rfl, rfl, rfl, OwnL.nil _ _, Nat.le_refl _, E.refl _, ha, hm, hs, show _ = _ by simp⟩
  case round =>
    clear ha hm hs
    obtain ⟨k, n1, c1, A1, a, m, us, hk, rfl, rfl, rfl, rfl, hO, hn1, hE, ha, hm, hs, hus⟩ := hrel
    by_cases hlt : k < n
    · by_cases hm0 : m = 0
      · have HF := Lib.hid (show glue us = glue (cutU l a0 m0) by
          rw [← hus.out, hm0, cut_zero _ _ (Int.le_refl _), List.append_nil])
        subst hm0
        obtain ⟨b, o, x, rfl, hb, hx, hwx, d0, d1, d2⟩ := (h.e hE).get hlt
        have hkI : (k : Int) < (n : Int) := by omega
        go_wp2_with fail
        go_ret
        exact RetL.mk_ HF.out.symm (hO.e ((E.refl _).alloc _)) (hE.alloc _)
      · have hd0 : (m == 0) = false := by simpa using hm0
        obtain ⟨b, o, x, rfl, hb, hx, hwx, d0, d1, d2⟩ := (h.e hE).get hlt
        have hkI : (k : Int) < (n : Int) := by omega
        have hpx := possB_iff.1 (HP.out x (List.mem_of_getElem? hx))
        have hdr : l.drop k = x :: l.drop (k + 1) := by
          have hkl : k < l.length := by rw [HL.out]; exact hlt
          rw [List.drop_eq_getElem_cons hkl]
          rw [List.getElem?_eq_getElem hkl] at hx
          injection hx with hx
          rw [hx]
        by_cases hax : x.2.2 ≤ a
        · have HN := Lib.hid (show us ++ cutU (l.drop (k + 1)) (a - x.2.2) m = cutU l a0 m0 by
            rw [← hus.out, hdr, cut_skip (by omega) hax])
          have hwr : IntKind.i64.wrap (a - x.2.2) = a - x.2.2 := by rw [IntKind.wrap_i64]; omega
          clear hx hdr hd0
          obtain ⟨f, p, q⟩ := x
          simp only at *
          go_wp2_with fail
          go_roundw
          case rel => exact ⟨k + 1, n1, c1, A1, a - q, m, us, by omega, by go_num, rfl, rfl, rfl, hO.e ((E.refl _).alloc _), by omega, hE.alloc _, by omega, hm, by omega, HN⟩
          case measure => simp [intOf]; omega
        · obtain ⟨cn, hcn⟩ : ∃ cn, min m (x.2.2 - a) = cn := ⟨_, rfl⟩
          have HCN := Lib.hid hcn
          have HIF := Lib.hid (show (if x.2.2 - a < m then x.2.2 - a else m) = cn by split <;> omega)
          have hcn1 : 1 ≤ cn ∧ cn ≤ m ∧ cn ≤ x.2.2 - a := by omega
          have HN := Lib.hid (show (us ++ ul (x.1, x.2.1 + a, cn)) ++ cutU (l.drop (k + 1)) 0 (m - cn) = cutU l a0 m0 by
            rw [← hus.out, hdr, cut_some ha (by omega) hm, hcn, List.append_assoc])
          have hgp : ∀ y ∈ glue us, possB y = true := glue_poss (fun u hu => HU.out u (by
            have : u ∈ cutU l a0 m0 := by rw [← hus.out]; exact List.mem_append_left _ hu
            exact List.mem_of_mem_drop (List.mem_of_mem_take this)))
          have hq : (x.1, x.2.1 + a, cn).2.2 ≠ 0 → possB (x.1, x.2.1 + a, cn) = true := fun _ => possB_iff.2 (by simp only; omega)
          have hw1 : WfL (x.1, x.2.1 + a, cn) := ⟨hwx.1, wf_of_i64 (by simp only; omega) (by simp only; omega), wf_of_i64 (by simp only; omega) (by simp only; omega)⟩
          have HADD := Lib.hid (show addL (glue us) (x.1, x.2.1 + a, cn) = glue (us ++ ul (x.1, x.2.1 + a, cn)) from add_glue (by simp only; omega))
          have HLen := Lib.hid (add_len (glue us) (x.1, x.2.1 + a, cn))
          have hOl := hO.1
          have hle := hE.le
          have HA := Lib.hid (fun W (hW : E wr W) => append_c (x.1, x.2.1 + a, cn) A1 n1 c1 w.heap.size (glue us) W (hO.e hW) hgp hq hw1 (by have := hW.le; omega) (by omega))
          have hwr1 : IntKind.i64.wrap (x.2.2 - a) = x.2.2 - a := by rw [IntKind.wrap_i64]; omega
          have hwr2 : IntKind.i64.wrap (x.2.1 + a) = x.2.1 + a := by rw [IntKind.wrap_i64]; omega
          have hwr3 : IntKind.i64.wrap (m - cn) = m - cn := by rw [IntKind.wrap_i64]; omega
          have hge : decide (x.2.2 ≤ a) = false := by simpa using hax
          have hE1 := (E.refl wr).alloc (.cells #[.int .i64 x.1, .int .i64 x.2.1, .int .i64 x.2.2] 30)
          clear hx hdr hcn hgp hq hw1
          unfold ltV at HA
          obtain ⟨f, p, q⟩ := x
          simp only at *
          go_upto_region 9 with fail
          first | rw [HCN.out] | rw [HIF.out]
          go_wp2_with (go_at_call 62; refine (HA.out _ hE1).mono ?_; rintro e w3 ⟨A3, n3, c3, rfl, hO3, hG3, hor3⟩)
          have hEw3 : E w w3 := (hE.trans hE1).grown hG3 (fun q hq => (hO.ltN q hq).1)
          have hn3 : n3 ≤ k + 1 := by have h1 := hO3.1; have h2 := HLen.out; omega
          rw [HADD.out] at hO3
          go_roundw
          case rel => exact ⟨k + 1, n3, c3, A3, 0, m - cn, _, by omega, by go_num, rfl, rfl, rfl, hO3, hn3, hEw3, by omega, by omega, by omega, HN⟩
          case measure => simp [intOf]; omega
    · have HF := Lib.hid (show glue us = glue (cutU l a0 m0) by
        have := hus.out
        rw [List.drop_eq_nil_of_le (by have := HL.out; omega)] at this
        rw [← this, cutU, U_nil]
        simp)
      go_wp2_with fail
      go_ret
      exact RetL.mk_ HF.out.symm hO hE
end Go.Proofs.YtmeplpiamkaniaaGreat
namespace Go.Proofs
set_option linter.unusedVariables false
set_option linter.unusedSimpArgs false
open Go.Shelf
def Tryz.lays134_ren : Go.Shelf.Ren := ⟨fun | 134 => 118 | 129 => 116 | n => n, fun | 53 => 34 | 3 => 3 | 4 => 4 | 46 => 110 | 5 => 5 | 9 => 9 | n => n, fun | n => n⟩
theorem Tryz.lays134 : Go.Proofs.Lays.n134 Tryz.prog Tryz.lays134_ren := {
  mixed := by kernel_rfl
  f129 := Tryz.func116.trans (congrArg some (by kernel_rfl))
  f134 := Tryz.func118.trans (congrArg some (by kernel_rfl))
  t3 := Tryz.underlying3
  a3 := Tryz.isAgg3
  z3 := Tryz.sizeOf3
  v3 := Tryz.zeroValue3
  t4 := Tryz.underlying4
  a4 := Tryz.isAgg4
  z4 := Tryz.sizeOf4
  v4 := Tryz.zeroValue4
  t5 := Tryz.underlying5
  a5 := Tryz.isAgg5
  z5 := Tryz.sizeOf5
  v5 := Tryz.zeroValue5
  t9 := Tryz.underlying9
  a9 := Tryz.isAgg9
  z9 := Tryz.sizeOf9
  v9 := Tryz.zeroValue9
  t46 := Tryz.underlying110
  a46 := Tryz.isAgg110
  z46 := Tryz.sizeOf110
  v46 := Tryz.zeroValue110
  t53 := Tryz.underlying34
  a53 := Tryz.isAgg34
  z53 := Tryz.sizeOf34
  v53 := Tryz.zeroValue34 }
theorem Tryz.bits_LeadingZeros64 (x : Int) (w : World) (h0 : 0 ≤ x) (h1 : x ≤ 18446744073709551615) :
    Calls Tryz.prog 118 #[.int .u64 x] w fun e w' => e = .returned (.int .i64 (64 - (Lib.bitLen x.toNat : Int))) ∧ w' = w := Any.bits_LeadingZeros64 Tryz.lays134 x w h0 h1
def Tryz.lays264_ren : Go.Shelf.Ren := ⟨fun | 264 => 86 | n => n, fun | 53 => 34 | 46 => 110 | n => n, fun | n => n⟩
theorem Tryz.lays264 : Go.Proofs.Lays.n264 Tryz.prog Tryz.lays264_ren := {
  mixed := by kernel_rfl
  f264 := Tryz.func86.trans (congrArg some (by kernel_rfl))
  t46 := Tryz.underlying110
  a46 := Tryz.isAgg110
  z46 := Tryz.sizeOf110
  v46 := Tryz.zeroValue110
  t53 := Tryz.underlying34
  a53 := Tryz.isAgg34
  z53 := Tryz.sizeOf34
  v53 := Tryz.zeroValue34 }
open Go.RowKit Go.Lib in
theorem Tryz.bits_Mul64 (x y : Nat) (hx : x < 18446744073709551616) (hy : y < 18446744073709551616) (w : World) :
    Calls Tryz.prog 86 #[.int .u64 x, .int .u64 y] w fun e w' => e = .returned (.tuple #[.int .u64 ((x * y / 18446744073709551616 : Nat) : Int), .int .u64 ((x * y % 18446744073709551616 : Nat) : Int)]) ∧ w' = w := Any.bits_Mul64 Tryz.lays264 x y hx hy w
end Go.Proofs
namespace Go.Proofs.YtmeplpiamkaniaaGreat
set_option linter.unusedVariables false
set_option linter.unusedSimpArgs false
open Go.RowKit
theorem bitLen_facts {x : Nat} (h0 : 0 < x) (h1 : x < 18446744073709551616) : ∃ k : Nat, Lib.bitLen x = k + 1 ∧ k < 64 ∧ 2 ^ k ≤ x ∧ x < 2 ^ (k + 1) := by
  have key : ∀ k : Nat, k ≤ 63 → x < 2 ^ (k + 1) → 2 ^ k ≤ x → Lib.bitLen x = k + 1 := by
    intro k hk h2 h3
    have := Lib.bitLen_shift k x h3 h1
    have e : x / 2 ^ k = 1 := by
      have hp : 0 < 2 ^ k := Nat.pow_pos (by omega)
      apply Nat.div_eq_of_lt_le
      · omega
      · rw [Nat.pow_succ] at h2; omega
    rw [this, e]; rfl
  have ex : ∀ m : Nat, m ≤ 64 → x < 2 ^ m → ∃ k, k < 64 ∧ x < 2 ^ (k + 1) ∧ 2 ^ k ≤ x := by
    intro m
    induction m with
    | zero => intro _ h; simp at h; omega
    | succ m ih =>
      intro hm h
      by_cases hlt : x < 2 ^ m
      · exact ih (by omega) hlt
      · exact ⟨m, by omega, h, by omega⟩
  obtain ⟨k, hk, h2, h3⟩ := ex 64 (Nat.le_refl _) (by simpa using h1)
  exact ⟨k, key k (by omega) h2 h3, hk, h3, h2⟩
theorem norm_facts {y : Int} {k s : Nat} (hy : 0 < y) (h1 : 2 ^ k ≤ y.toNat) (h2 : y.toNat < 2 ^ (k + 1)) (hk : k < 64) (hs : 63 - k = s) :
    IntKind.u64.wrap (y * 2 ^ s) = y * 2 ^ s ∧ 9223372036854775808 ≤ y * 2 ^ s ∧ y * 2 ^ s ≤ 18446744073709551615 := by
  obtain ⟨n, rfl⟩ := Int.eq_ofNat_of_zero_le (Int.le_of_lt hy)
  rw [Int.toNat_natCast] at h1 h2
  have e : ((n : Int) * 2 ^ s) = ((n * 2 ^ s : Nat) : Int) := by simp
  have g1 : 2 ^ k * 2 ^ s ≤ n * 2 ^ s := Nat.mul_le_mul_right _ h1
  have g2 : n * 2 ^ s < 2 ^ (k + 1) * 2 ^ s := Nat.mul_lt_mul_of_pos_right h2 (Nat.pow_pos (by omega))
  rw [← Nat.pow_add] at g1 g2
  rw [show k + s = 63 by omega] at g1
  rw [show k + 1 + s = 64 by omega] at g2
  rw [e, IntKind.wrap_u64]
  omega
theorem or_facts {hi lo y : Int} {s : Nat} (hs : s ≤ 63) (h0 : 0 ≤ hi) (hl0 : 0 ≤ lo) (hl1 : lo ≤ 18446744073709551615) (hy : hi < y) (hY : y * 2 ^ s ≤ 18446744073709551615) :
    bits .or .u64 (IntKind.u64.wrap (hi * 2 ^ s)) (lo / 2 ^ (64 - s)) = hi * 2 ^ s + lo / 2 ^ (64 - s) ∧ hi * 2 ^ s + lo / 2 ^ (64 - s) < y * 2 ^ s ∧ 0 ≤ hi * 2 ^ s + lo / 2 ^ (64 - s) := by
  obtain ⟨a, rfl⟩ := Int.eq_ofNat_of_zero_le h0
  obtain ⟨b, rfl⟩ := Int.eq_ofNat_of_zero_le hl0
  obtain ⟨c, rfl⟩ := Int.eq_ofNat_of_zero_le (show 0 ≤ y by omega)
  have e1 : ((a : Int) * 2 ^ s) = ((a * 2 ^ s : Nat) : Int) := by simp
  have e2 : ((c : Int) * 2 ^ s) = ((c * 2 ^ s : Nat) : Int) := by simp
  have e3 : ((b : Int) / 2 ^ (64 - s)) = ((b / 2 ^ (64 - s) : Nat) : Int) := by simp
  have hac : a + 1 ≤ c := by omega
  have g1 : (a + 1) * 2 ^ s ≤ c * 2 ^ s := Nat.mul_le_mul_right _ hac
  have g2 : b / 2 ^ (64 - s) < 2 ^ s := by
    apply Nat.div_lt_of_lt_mul
    rw [← Nat.pow_add, show 64 - s + s = 64 by omega]; omega
  rw [e2] at hY
  rw [Nat.add_mul, Nat.one_mul] at g1
  have ho := Nat.two_pow_add_eq_or_of_lt g2 a
  rw [Nat.mul_comm] at ho
  rw [e1, e2, e3, IntKind.wrap_u64]
  clear e1 e2 e3
  generalize a * 2 ^ s = a' at *
  generalize c * 2 ^ s = c' at *
  generalize b / 2 ^ (64 - s) = b' at *
  generalize 2 ^ s = p at *
  have hb : a' < 18446744073709551616 := by omega
  rw [show ((a' : Nat) : Int) % 18446744073709551616 = (a' : Int) by omega]
  rw [bits_or_u64_nat _ _ hb (by omega), ← ho]
  omega
theorem and_mask {a : Int} (h0 : 0 ≤ a) (h1 : a ≤ 18446744073709551615) : bits .and .u64 a 4294967295 = a % 4294967296 := by
  obtain ⟨n, rfl⟩ := Int.eq_ofNat_of_zero_le h0
  have h := bits_and_u64_nat n 4294967295 (by omega) (by omega)
  have e : n &&& 4294967295 = n % 4294967296 := Nat.and_two_pow_sub_one_eq_mod n 32
  rw [e] at h
  exact h.trans (by omega)
theorem up_facts {hi lo : Int} {s : Nat} (hs : s ≤ 63) : (hi * 18446744073709551616 + lo) * 2 ^ s = (hi * 2 ^ s + lo / 2 ^ (64 - s)) * 18446744073709551616 + IntKind.u64.wrap (lo * 2 ^ s) := by
  rw [IntKind.wrap_u64]
  have hp : (18446744073709551616 : Int) = 2 ^ (64 - s) * 2 ^ s := by rw [← Int.pow_add, show 64 - s + s = 64 by omega]; rfl
  have hd : lo * 2 ^ s / 18446744073709551616 = lo / 2 ^ (64 - s) := by
    conv => lhs; rw [hp]
    exact Int.mul_ediv_mul_of_pos_left _ _ (Int.pow_pos (by omega))
  have := Int.mul_ediv_add_emod (lo * 2 ^ s) 18446744073709551616
  rw [hd] at this
  grind
theorem two_digits {U Y L1 L0 : Int} (hY : 0 < Y) : ((U * 4294967296 + L1) * 4294967296 + L0) / Y = (U * 4294967296 + L1) / Y * 4294967296 + ((U * 4294967296 + L1) % Y * 4294967296 + L0) / Y ∧ ((U * 4294967296 + L1) * 4294967296 + L0) % Y = ((U * 4294967296 + L1) % Y * 4294967296 + L0) % Y := by
  have h := Int.mul_ediv_add_emod (U * 4294967296 + L1) Y
  generalize (U * 4294967296 + L1) / Y = q at *
  generalize (U * 4294967296 + L1) % Y = V at *
  rw [← h]
  have e : (Y * q + V) * 4294967296 + L0 = (V * 4294967296 + L0) + Y * (q * 4294967296) := by grind
  rw [e, Int.add_mul_ediv_left _ _ (by omega), Int.add_mul_emod_self_left]
  omega
theorem down_facts {X y : Int} {s : Nat} : X * 2 ^ s / (y * 2 ^ s) = X / y ∧ X * 2 ^ s % (y * 2 ^ s) / 2 ^ s = X % y := by
  have hp : (0 : Int) < 2 ^ s := Int.pow_pos (by omega)
  refine ⟨Int.mul_ediv_mul_of_pos_left _ _ hp, ?_⟩
  rw [Int.mul_comm X, Int.mul_comm y, Int.mul_emod_mul_of_pos _ _ hp, Int.mul_ediv_cancel_left _ (by omega)]
theorem start_facts {U y1 : Int} (hy : 2147483648 ≤ y1) (hU0 : 0 ≤ U) (hU1 : U ≤ 18446744073709551615) :
    IntKind.u64.wrap (U - IntKind.u64.wrap (U / y1 * y1)) = U % y1 ∧ 0 ≤ U % y1 ∧ U % y1 < y1 ∧ U = U / y1 * y1 + U % y1 ∧ 0 ≤ U / y1 ∧ U / y1 ≤ U := by
  have h := Int.mul_ediv_add_emod U y1
  have h1 := Int.emod_nonneg U (show y1 ≠ 0 by omega)
  have h2 := Int.emod_lt_of_pos U (show 0 < y1 by omega)
  have h3 := Int.ediv_nonneg hU0 (show 0 ≤ y1 by omega)
  have h4 := Int.ediv_le_self y1 hU0
  rw [Int.mul_comm] at h
  have h5 := Int.mul_nonneg h3 (show 0 ≤ y1 by omega)
  generalize U / y1 * y1 = p at *
  generalize U / y1 = q at *
  generalize U % y1 = r at *
  rw [IntKind.wrap_u64, IntKind.wrap_u64]
  omega
theorem kd_start {U Y y1 y0 u1 B Q : Int} (hB : 0 < B) (hY : Y = y1 * B + y0) (h1 : 0 < y1) (h0 : 0 ≤ y0) (hu : u1 < B) (hY0 : 0 < Y) (hU : 0 ≤ U) (hu0 : 0 ≤ u1) (hQ : (U * B + u1) / Y = Q) : Q ≤ U / y1 := by
  have a1 : Q * Y ≤ U * B + u1 := by rw [← hQ]; exact Int.ediv_mul_le _ (by omega)
  have a2 : 0 ≤ Q := by rw [← hQ]; exact Int.ediv_nonneg (Int.add_nonneg (Int.mul_nonneg hU (by omega)) hu0) (by omega)
  have a3 : Q * Y = Q * y1 * B + Q * y0 := by rw [hY]; grind
  have a4 := Int.mul_nonneg a2 h0
  rw [Int.le_ediv_iff_mul_le h1]
  rcases Int.lt_or_le U (Q * y1) with h | h
  · have := Int.mul_le_mul_of_nonneg_right (show U + 1 ≤ Q * y1 by omega) (show 0 ≤ B by omega)
    rw [Int.add_mul, Int.one_mul] at this
    omega
  · exact h
theorem rest_facts {U Y u1 q : Int} (hY0 : 0 < Y) (hY1 : Y ≤ 18446744073709551615) (hq : (U * 4294967296 + u1) / Y = q) :
    IntKind.u64.wrap (IntKind.u64.wrap (IntKind.u64.wrap (U * 4294967296) + u1) - IntKind.u64.wrap (q * Y)) = (U * 4294967296 + u1) % Y := by
  have h := Int.mul_ediv_add_emod (U * 4294967296 + u1) Y
  have h1 := Int.emod_nonneg (U * 4294967296 + u1) (show Y ≠ 0 by omega)
  have h2 := Int.emod_lt_of_pos (U * 4294967296 + u1) hY0
  rw [hq, Int.mul_comm] at h
  generalize (U * 4294967296 + u1) % Y = r at *
  generalize q * Y = p at *
  rw [IntKind.wrap_u64, IntKind.wrap_u64, IntKind.wrap_u64, IntKind.wrap_u64]
  omega
theorem small_prod {q y0 : Int} (h0 : 0 ≤ q) (h1 : q < 4294967296) (g0 : 0 ≤ y0) (g1 : y0 ≤ 4294967295) : 0 ≤ q * y0 ∧ q * y0 ≤ 18446744065119617025 := by
  refine ⟨Int.mul_nonneg h0 g0, ?_⟩
  have a1 : q * y0 ≤ 4294967295 * y0 := Int.mul_le_mul_of_nonneg_right (by omega) g0
  omega
set_option maxHeartbeats 1000000 in
set_option maxRecDepth 100000 in
theorem div64_hi (hi lo y : Int) (w : World) (h0 : 0 < hi) (hl0 : 0 ≤ lo) (hl1 : lo ≤ 18446744073709551615) (hy : hi < y) (hy1 : y ≤ 18446744073709551615) :
    Calls Tryz.prog 87 #[.int .u64 hi, .int .u64 lo, .int .u64 y] w fun e w' => e = .returned (.tuple #[.int .u64 ((hi * 18446744073709551616 + lo) / y), .int .u64 ((hi * 18446744073709551616 + lo) % y)]) ∧ w = w' := by
  have b1 : (y == 0) = false := by simp; omega
  have b2 : decide (y ≤ hi) = false := by simp; omega
  have b3 : (hi == 0) = false := by simp; omega
  obtain ⟨k, hk, hk1, hk2, hk3⟩ := bitLen_facts (x := y.toNat) (by omega) (by omega)
  obtain ⟨s, hs⟩ : ∃ s : Nat, 63 - k = s := ⟨_, rfl⟩
  have hs1 : s ≤ 63 := by omega
  have hlz : (64 - (((k + 1 : Nat)) : Int)) = (s : Int) := by omega
  obtain ⟨n1, n2, n3⟩ := norm_facts (by omega) hk2 hk3 hk1 hs
  obtain ⟨o1, o2, o3⟩ := or_facts hs1 (Int.le_of_lt h0) hl0 hl1 hy n3
  have up := up_facts (hi := hi) (lo := lo) hs1
  obtain ⟨d1, d2⟩ := down_facts (X := hi * 18446744073709551616 + lo) (y := y) (s := s)
  rw [up] at d1 d2
  rw [← d1, ← d2]
  have hL : 0 ≤ IntKind.u64.wrap (lo * 2 ^ s) ∧ IntKind.u64.wrap (lo * 2 ^ s) ≤ 18446744073709551615 := by rw [IntKind.wrap_u64]; omega
  obtain ⟨hL0, hL1⟩ := hL
  have HK := Lib.hid hk
  have HZ := Lib.hid hlz
  clear hk hk2 hk3 d1 d2 up hs hlz
  generalize hYe : y * 2 ^ s = Y at *
  generalize hUe : hi * 2 ^ s + lo / 2 ^ (64 - s) = U at *
  generalize hLe : IntKind.u64.wrap (lo * 2 ^ s) = L at *
  clear hUe
  have b4 : (Y / 4294967296 == 0) = false := by simp; omega
  have hA : bits .and .u64 Y 4294967295 = Y % 4294967296 := and_mask (by omega) (by omega)
  have hB : bits .and .u64 L 4294967295 = L % 4294967296 := and_mask (by omega) (by omega)
  obtain ⟨y1, hy1e⟩ : ∃ y1, Y / 4294967296 = y1 := ⟨_, rfl⟩
  obtain ⟨y0, hy0e⟩ : ∃ y0, Y % 4294967296 = y0 := ⟨_, rfl⟩
  obtain ⟨u1, hu1e⟩ : ∃ u1, L / 4294967296 = u1 := ⟨_, rfl⟩
  obtain ⟨u0, hu0e⟩ : ∃ u0, L % 4294967296 = u0 := ⟨_, rfl⟩
  have HYe := Lib.hid (show Y = y1 * 4294967296 + y0 by omega)
  have HLe := Lib.hid (show U * 18446744073709551616 + L = (U * 4294967296 + u1) * 4294967296 + u0 by omega)
  have p1 : 2147483648 ≤ y1 := by omega
  have p2 : y1 ≤ 4294967295 := by omega
  have p3 : 0 ≤ y0 := by omega
  have p4 : y0 ≤ 4294967295 := by omega
  have p5 : 0 ≤ u1 := by omega
  have p6 : u1 ≤ 4294967295 := by omega
  have p7 : 0 ≤ u0 := by omega
  have p8 : u0 ≤ 4294967295 := by omega
  have p9 : U ≤ 18446744073709551615 := by omega
  rw [hy1e] at b4
  obtain ⟨s1, s2, s3, s4, s5, s6⟩ := start_facts p1 o3 p9
  obtain ⟨q0, hq0⟩ : ∃ q, U / y1 = q := ⟨_, rfl⟩
  obtain ⟨r0, hr0⟩ : ∃ r, U % y1 = r := ⟨_, rfl⟩
  rw [hq0, hr0] at s1
  rw [hq0] at s4 s5 s6
  rw [hr0] at s2 s3 s4
  clear hr0
  have S4 := Lib.hid s4
  clear s4
  obtain ⟨Q1, hQ1⟩ : ∃ q, (U * 4294967296 + u1) / Y = q := ⟨_, rfl⟩
  have HQ1 := Lib.hid hQ1
  have HQ0 := Lib.hid (show Q1 ≤ q0 by rw [← hq0]; exact kd_start (by omega) HYe.out (by omega) p3 (by omega) (by omega) o3 p5 hQ1)
  have q1a : 0 ≤ Q1 := by rw [← hQ1]; exact Int.ediv_nonneg (by omega) (by omega)
  have q1b : Q1 < 4294967296 := by rw [← hQ1]; exact kd_lt (by omega) (by omega) (by omega) (by omega)
  clear hQ1
  go_enter Tryz.func87, Tryz.ntmps87
  go_wp2_with fail
  refine (Tryz.bits_LeadingZeros64 y _ (by omega) hy1).mono ?_
  rintro e w' ⟨rfl, rfl⟩
  rw [HK.out, HZ.out]
  go_upto_block 0 with fail
  have Hq0 := Lib.hid hq0
  clear hq0 s1
  go_cut [15] (fun t wx => t = .int .u64 Q1 ∧ w' = wx)
  case first =>
    go_wp2_with fail
    go_loop [15, 16] (fun t v => ∃ q r : Int, t = .int .u64 q ∧ v = .int .u64 r ∧ 0 ≤ q ∧ q ≤ 18446744073709551615 ∧ 0 ≤ r ∧ r ≤ 4294967295 ∧ Hid (U = q * y1 + r) ∧ Hid (Q1 ≤ q)) (fun t _ => (intOf t).toNat)
    case atStart => exact ⟨q0, r0, congrArg (Value.int .u64) Hq0.out, rfl, by omega, by omega, by omega, by omega, S4, HQ0⟩
    case round =>
      obtain ⟨q, r, rfl, rfl, c1, c2, c3, c4, hI, hJ⟩ := hrel
      have c1' : Q1 ≤ q := hJ.out
      have HN := Lib.hid (show U = (q - 1) * y1 + (r + y1) by have := hI.out; grind)
      by_cases k1 : 4294967296 ≤ q
      · have d1 : decide (4294967296 ≤ q) = true := by simpa using k1
        have HM := Lib.hid (show Q1 ≤ q - 1 by omega)
        by_cases k3 : 4294967296 ≤ r + y1
        · have d3 : decide (4294967296 ≤ r + y1) = true := by simpa using k3
          have HE := Lib.hid (show q - 1 = Q1 by
            have := kd_far (by omega) (by omega) p3 (by omega) HYe.out o2 p5 HN.out k3
            have := kd_fit (by omega) HYe.out HN.out this.2
            have := HQ1.out; have := HM.out; omega)
          go_wp2
          go_meet
          exact ⟨congrArg (Value.int .u64) HE.out, rfl⟩
        · have d3 : decide (4294967296 ≤ r + y1) = false := by simpa using k3
          go_wp2
          go_round
          case rel => exact ⟨q - 1, r + y1, rfl, rfl, by omega, by omega, by omega, by omega, HN, HM⟩
          case measure => simp [intOf]; omega
      · have d1 : decide (4294967296 ≤ q) = false := by simpa using k1
        obtain ⟨m1, m2⟩ := small_prod c1 (by omega) p3 p4
        by_cases k2 : 4294967296 * r + u1 < q * y0
        · have d2 : decide (4294967296 * r + u1 < q * y0) = true := by simpa using k2
          have HM := Lib.hid (show Q1 ≤ q - 1 by rw [← HQ1.out]; exact kd_over (by omega) HYe.out hI.out (by omega))
          have hq1 : 1 ≤ q := by have := HM.out; omega
          by_cases k3 : 4294967296 ≤ r + y1
          · have d3 : decide (4294967296 ≤ r + y1) = true := by simpa using k3
            have HE := Lib.hid (show q - 1 = Q1 by
              have := kd_far (by omega) (by omega) p3 (by omega) HYe.out o2 p5 HN.out k3
              have := kd_fit (by omega) HYe.out HN.out this.2
              have := HQ1.out; have := HM.out; omega)
            go_wp2
            go_meet
            exact ⟨congrArg (Value.int .u64) HE.out, rfl⟩
          · have d3 : decide (4294967296 ≤ r + y1) = false := by simpa using k3
            go_wp2
            go_round
            case rel => exact ⟨q - 1, r + y1, rfl, rfl, by omega, by omega, by omega, by omega, HN, HM⟩
            case measure => simp [intOf]; omega
        · have d2 : decide (4294967296 * r + u1 < q * y0) = false := by simpa using k2
          have HE := Lib.hid (show q = Q1 by
            have := kd_fit (u1 := u1) (by omega) HYe.out hI.out (by omega)
            have := HQ1.out; omega)
          go_wp2
          go_meet
          exact ⟨congrArg (Value.int .u64) HE.out, rfl⟩
  case rest =>
    obtain ⟨rfl, rfl⟩ := hcut
    obtain ⟨V, hV⟩ : ∃ V, (U * 4294967296 + u1) % Y = V := ⟨_, rfl⟩
    have rf := rest_facts (show 0 < Y by omega) n3 HQ1.out
    rw [hV] at rf
    have HV := Lib.hid hV
    have v0 : 0 ≤ V := by rw [← hV]; exact Int.emod_nonneg _ (by omega)
    have v1 : V < Y := by rw [← hV]; exact Int.emod_lt_of_pos _ (by omega)
    clear hV
    obtain ⟨s1, s2, s3, s4, s5, s6⟩ := start_facts p1 v0 (show V ≤ 18446744073709551615 by omega)
    obtain ⟨q0', hq0⟩ : ∃ q, V / y1 = q := ⟨_, rfl⟩
    obtain ⟨r0', hr0⟩ : ∃ r, V % y1 = r := ⟨_, rfl⟩
    rw [hq0, hr0] at s1
    rw [hq0] at s4 s5 s6
    rw [hr0] at s2 s3 s4
    clear hr0
    have S4 := Lib.hid s4
    clear s4
    obtain ⟨Q0, hQ0⟩ : ∃ q, (V * 4294967296 + u0) / Y = q := ⟨_, rfl⟩
    have HQ0 := Lib.hid hQ0
    have HQs := Lib.hid (show Q0 ≤ q0' by rw [← hq0]; exact kd_start (by omega) HYe.out (by omega) p3 (by omega) (by omega) v0 p7 hQ0)
    have z1 : 0 ≤ Q0 := by rw [← hQ0]; exact Int.ediv_nonneg (by omega) (by omega)
    have z2 : Q0 < 4294967296 := by rw [← hQ0]; exact kd_lt (by omega) (by omega) (by omega) (by omega)
    clear hQ0
    have Hq0 := Lib.hid hq0
    go_upto_block 2 with fail
    clear hq0 s1 rf
    go_cut [18] (fun t wx => t = .int .u64 Q0 ∧ w' = wx)
    case first =>
      go_wp2_with fail
      go_loop [18, 16] (fun t v => ∃ q r : Int, t = .int .u64 q ∧ v = .int .u64 r ∧ 0 ≤ q ∧ q ≤ 18446744073709551615 ∧ 0 ≤ r ∧ r ≤ 4294967295 ∧ Hid (V = q * y1 + r) ∧ Hid (Q0 ≤ q)) (fun t _ => (intOf t).toNat)
      case atStart => exact ⟨q0', r0', congrArg (Value.int .u64) Hq0.out, rfl, by omega, by omega, by omega, by omega, S4, HQs⟩
      case round =>
        obtain ⟨q, r, rfl, rfl, c1, c2, c3, c4, hI, hJ⟩ := hrel
        have c1' : Q0 ≤ q := hJ.out
        have HN := Lib.hid (show V = (q - 1) * y1 + (r + y1) by have := hI.out; grind)
        by_cases k1 : 4294967296 ≤ q
        · have d1 : decide (4294967296 ≤ q) = true := by simpa using k1
          have HM := Lib.hid (show Q0 ≤ q - 1 by omega)
          by_cases k3 : 4294967296 ≤ r + y1
          · have d3 : decide (4294967296 ≤ r + y1) = true := by simpa using k3
            have HE := Lib.hid (show q - 1 = Q0 by
              have := kd_far (by omega) (by omega) p3 (by omega) HYe.out v1 p7 HN.out k3
              have := kd_fit (by omega) HYe.out HN.out this.2
              have := HQ0.out; have := HM.out; omega)
            go_wp2
            go_meet
            exact ⟨congrArg (Value.int .u64) HE.out, rfl⟩
          · have d3 : decide (4294967296 ≤ r + y1) = false := by simpa using k3
            go_wp2
            go_round
            case rel => exact ⟨q - 1, r + y1, rfl, rfl, by omega, by omega, by omega, by omega, HN, HM⟩
            case measure => simp [intOf]; omega
        · have d1 : decide (4294967296 ≤ q) = false := by simpa using k1
          obtain ⟨m1, m2⟩ := small_prod c1 (by omega) p3 p4
          by_cases k2 : 4294967296 * r + u0 < q * y0
          · have d2 : decide (4294967296 * r + u0 < q * y0) = true := by simpa using k2
            have HM := Lib.hid (show Q0 ≤ q - 1 by rw [← HQ0.out]; exact kd_over (by omega) HYe.out hI.out (by omega))
            have hq1 : 1 ≤ q := by have := HM.out; omega
            by_cases k3 : 4294967296 ≤ r + y1
            · have d3 : decide (4294967296 ≤ r + y1) = true := by simpa using k3
              have HE := Lib.hid (show q - 1 = Q0 by
                have := kd_far (by omega) (by omega) p3 (by omega) HYe.out v1 p7 HN.out k3
                have := kd_fit (by omega) HYe.out HN.out this.2
                have := HQ0.out; have := HM.out; omega)
              go_wp2
              go_meet
              exact ⟨congrArg (Value.int .u64) HE.out, rfl⟩
            · have d3 : decide (4294967296 ≤ r + y1) = false := by simpa using k3
              go_wp2
              go_round
              case rel => exact ⟨q - 1, r + y1, rfl, rfl, by omega, by omega, by omega, by omega, HN, HM⟩
              case measure => simp [intOf]; omega
          · have d2 : decide (4294967296 * r + u0 < q * y0) = false := by simpa using k2
            have HE := Lib.hid (show q = Q0 by
              have := kd_fit (u1 := u0) (by omega) HYe.out hI.out (by omega)
              have := HQ0.out; omega)
            go_wp2
            go_meet
            exact ⟨congrArg (Value.int .u64) HE.out, rfl⟩
    case rest =>
      obtain ⟨rfl, rfl⟩ := hcut
      have rf := rest_facts (show 0 < Y by omega) n3 HQ0.out
      have HR := Lib.hid (two_digits (U := U) (Y := Y) (L1 := u1) (L0 := u0) (by omega))
      go_wp2_with fail
      go_ret2
      exact ⟨ret_two (by rw [HLe.out, HR.out.1, HQ1.out, HV.out, HQ0.out]) (by rw [HLe.out, HR.out.2, HV.out]), rfl⟩
set_option maxHeartbeats 400000 in
theorem div64_lo (lo y : Int) (w : World) (hl0 : 0 ≤ lo) (hl1 : lo ≤ 18446744073709551615) (hy : 0 < y) (hy1 : y ≤ 18446744073709551615) :
    Calls Tryz.prog 87 #[.int .u64 0, .int .u64 lo, .int .u64 y] w fun e w' => e = .returned (.tuple #[.int .u64 (lo / y), .int .u64 (lo % y)]) ∧ Q w w' := by
  have b1 : (y == 0) = false := by simp; omega
  have b2 : decide (y ≤ 0) = false := by simp; omega
  have hd0 := Int.ediv_nonneg hl0 (Int.le_of_lt hy)
  have hd1 := Int.ediv_le_self y hl0
  go_enter Tryz.func87, Tryz.ntmps87
  go_wp2_with fail
  go_quiet (fail)
  go_wp2_with fail
  go_ret2
  exact ⟨ret_two rfl rfl, (Q.refl _).drewN _⟩
theorem div64_c (hi lo y : Int) (w : World) (h0 : 0 ≤ hi) (hl0 : 0 ≤ lo) (hl1 : lo ≤ 18446744073709551615) (hy : hi < y) (hy1 : y ≤ 18446744073709551615) :
    Calls Tryz.prog 87 #[.int .u64 hi, .int .u64 lo, .int .u64 y] w fun e w' => e = .returned (.tuple #[.int .u64 ((hi * 18446744073709551616 + lo) / y), .int .u64 ((hi * 18446744073709551616 + lo) % y)]) ∧ Q w w' := by
  by_cases h : 0 < hi
  · exact (div64_hi hi lo y w h hl0 hl1 hy hy1).mono fun _ _ ⟨a, b⟩ => ⟨a, b ▸ Q.refl _⟩
  · obtain rfl : hi = 0 := by omega
    rw [Int.zero_mul, Int.zero_add]
    exact div64_lo lo y w hl0 hl1 hy hy1
end Go.Proofs.YtmeplpiamkaniaaGreat
namespace Go.Proofs.YtmeplpiamkaniaaGreat
set_option linter.unusedVariables false
set_option linter.unusedSimpArgs false
open Go.RowKit
def divOk (t n d : Int) : Bool := okU t && (okL n && (okL d && decide (d ≠ 0)))
def divFit (t n d : Int) : Bool := decide (t * n / d ≤ 1099511627776)
def divQ (t n d : Int) : Int := if divOk t n d = true ∧ divFit t n d = true then t * n / d else 0
def divR (t n d : Int) : Int := if divOk t n d = true ∧ divFit t n d = true then t * n % d else 0
def divE (t n d : Int) : Int := if divOk t n d then (if divFit t n d then 0 else 5) else 1
def ceilN (t n d : Int) : Int := divQ t n d + (if 0 < divR t n d then 1 else 0)
def ceilQ (t n d : Int) : Int := if divE t n d = 0 ∧ ceilN t n d ≤ 1099511627776 then ceilN t n d else 0
def ceilE (t n d : Int) : Int := if divE t n d = 0 then (if ceilN t n d ≤ 1099511627776 then 0 else 5) else divE t n d
theorem ret_three {k k' k'' : IntKind} {a b c d x y : Int} (h : a = b) (h' : c = d) (h'' : x = y) : Ending.returned (.tuple #[.int k a, .int k' c, .int k'' x]) = .returned (.tuple #[.int k b, .int k' d, .int k'' y]) := by rw [h, h', h'']
theorem mul64_c (x y : Int) (w : World) (hx0 : 0 ≤ x) (hx1 : x ≤ 18446744073709551615) (hy0 : 0 ≤ y) (hy1 : y ≤ 18446744073709551615) :
    Calls Tryz.prog 86 #[.int .u64 x, .int .u64 y] w fun e w' => e = .returned (.tuple #[.int .u64 (x * y / 18446744073709551616), .int .u64 (x * y % 18446744073709551616)]) ∧ w = w' := by
  obtain ⟨a, rfl⟩ := Int.eq_ofNat_of_zero_le hx0
  obtain ⟨b, rfl⟩ := Int.eq_ofNat_of_zero_le hy0
  refine (Tryz.bits_Mul64 a b (by omega) (by omega) w).mono ?_
  rintro e w' ⟨rfl, rfl⟩
  exact ⟨ret_two (by simp) (by simp), rfl⟩
theorem divOk_iff {t n d : Int} : divOk t n d = true ↔ (0 ≤ t ∧ t ≤ 1099511627776) ∧ (0 ≤ n ∧ n ≤ 1152921504606846976) ∧ 0 < d ∧ d ≤ 1152921504606846976 := by
  simp only [divOk, Bool.and_eq_true, okU_iff, okL_iff, decide_eq_true_eq]; omega
theorem prod_range {t n : Int} (h0 : 0 ≤ t) (h1 : t ≤ 1152921504606846976) (g0 : 0 ≤ n) (g1 : n ≤ 1152921504606846976) : 0 ≤ t * n ∧ t * n ≤ 1329227995784915872903807060280344576 := by
  refine ⟨Int.mul_nonneg h0 g0, ?_⟩
  have a1 : t * n ≤ 1152921504606846976 * n := Int.mul_le_mul_of_nonneg_right h1 g0
  omega
set_option maxHeartbeats 1000000 in
theorem divide_no (t n d : Int) (w : World) (h : divOk t n d = false) :
    Calls Tryz.prog 49 #[.int .i64 t, .int .i64 n, .int .i64 d] w fun e w' => e = .returned (.tuple #[.int .u64 0, .int .u64 0, .int .i64 1]) ∧ w = w' := by
  have HH := Lib.hid h
  clear h
  cases h1 : okU t
  · go_enter Tryz.func49, Tryz.ntmps49
    go_wp2_with (first | (go_at_call 48; refine (isAmount_c _ _).mono ?_; rintro e w' ⟨rfl, rfl⟩) | (go_at_call 85; refine (isLarge_c _ _).mono ?_; rintro e w' ⟨rfl, rfl⟩))
    go_ret3
    exact ⟨rfl, rfl⟩
  · cases h2 : okL n
    · go_enter Tryz.func49, Tryz.ntmps49
      go_wp2_with (first | (go_at_call 48; refine (isAmount_c _ _).mono ?_; rintro e w' ⟨rfl, rfl⟩) | (go_at_call 85; refine (isLarge_c _ _).mono ?_; rintro e w' ⟨rfl, rfl⟩))
      go_ret3
      exact ⟨rfl, rfl⟩
    · cases h3 : okL d
      · go_enter Tryz.func49, Tryz.ntmps49
        go_wp2_with (first | (go_at_call 48; refine (isAmount_c _ _).mono ?_; rintro e w' ⟨rfl, rfl⟩) | (go_at_call 85; refine (isLarge_c _ _).mono ?_; rintro e w' ⟨rfl, rfl⟩))
        go_ret3
        exact ⟨rfl, rfl⟩
      · obtain rfl : d = 0 := by
          have := HH.out
          simp only [divOk, h1, h2, h3, Bool.true_and, decide_eq_false_iff_not, ne_eq, Classical.not_not] at this
          exact this
        go_enter Tryz.func49, Tryz.ntmps49
        go_wp2_with (first | (go_at_call 48; refine (isAmount_c _ _).mono ?_; rintro e w' ⟨rfl, rfl⟩) | (go_at_call 85; refine (isLarge_c _ _).mono ?_; rintro e w' ⟨rfl, rfl⟩))
        go_ret3
        exact ⟨rfl, rfl⟩
set_option maxHeartbeats 1000000 in
theorem divide_yes (t n d : Int) (w : World) (h : divOk t n d = true) :
    Calls Tryz.prog 49 #[.int .i64 t, .int .i64 n, .int .i64 d] w fun e w' => e = .returned (.tuple #[.int .u64 (divQ t n d), .int .u64 (divR t n d), .int .i64 (divE t n d)]) ∧ Q w w' := by
  obtain ⟨⟨t0, t1⟩, ⟨n0, n1⟩, d0, d1⟩ := divOk_iff.1 h
  have hOk : divOk t n d = true := h
  clear h
  have e1 : okU t = true := okU_iff.2 ⟨t0, t1⟩
  have e2 : okL n = true := okL_iff.2 ⟨n0, n1⟩
  have e3 : okL d = true := okL_iff.2 ⟨by omega, d1⟩
  have e4 : (d == 0) = false := by simp; omega
  obtain ⟨pr0, pr1⟩ := prod_range t0 (by omega) n0 n1
  have HQ := Lib.hid (show divQ t n d = if t * n / d ≤ 1099511627776 then t * n / d else 0 by simp [divQ, hOk, divFit])
  have HR := Lib.hid (show divR t n d = if t * n / d ≤ 1099511627776 then t * n % d else 0 by simp [divR, hOk, divFit])
  have HE := Lib.hid (show divE t n d = if t * n / d ≤ 1099511627776 then 0 else 5 by simp [divE, hOk, divFit])
  clear hOk
  obtain ⟨p, hp⟩ : ∃ p, t * n = p := ⟨_, rfl⟩
  rw [hp] at HQ HR HE pr0 pr1
  have hp0 : 0 ≤ p / 18446744073709551616 := by omega
  have hp1 : p / 18446744073709551616 ≤ 18446744073709551615 := by omega
  have hp2 : 0 ≤ p % 18446744073709551616 := by omega
  have hp3 : p % 18446744073709551616 ≤ 18446744073709551615 := by omega
  have hdiv := Int.mul_ediv_add_emod p d
  have hm0 := Int.emod_nonneg p (show d ≠ 0 by omega)
  have hm1 := Int.emod_lt_of_pos p d0
  have hq0 := Int.ediv_nonneg pr0 (Int.le_of_lt d0)
  have HDV := Lib.hid hdiv
  clear hdiv
  by_cases hbig : d ≤ p / 18446744073709551616
  · have c1 : decide (d ≤ p / 18446744073709551616) = true := by simpa using hbig
    have hno : ¬ p / d ≤ 1099511627776 := by
      have : (18446744073709551616 : Int) ≤ p / d := by rw [Int.le_ediv_iff_mul_le d0]; omega
      omega
    go_enter Tryz.func49, Tryz.ntmps49
    go_wp2_with (first | (go_at_call 48; refine (isAmount_c _ _).mono ?_; rintro e w' ⟨rfl, rfl⟩) | (go_at_call 85; refine (isLarge_c _ _).mono ?_; rintro e w' ⟨rfl, rfl⟩))
    refine (mul64_c t n _ t0 (by omega) n0 (by omega)).mono ?_
    rintro e w' ⟨rfl, rfl⟩
    go_wp2_with fail
    go_ret3
    exact ⟨ret_three (by rw [HQ.out, if_neg (by omega)]) (by rw [HR.out, if_neg (by omega)]) (by rw [HE.out, if_neg (by omega)]), Q.refl _⟩
  · have c1 : decide (d ≤ p / 18446744073709551616) = false := by simpa using hbig
    by_cases hfit : p / d ≤ 1099511627776
    · have c2 : decide (1099511627776 < p / d) = false := by simp; omega
      go_enter Tryz.func49, Tryz.ntmps49
      go_wp2_with (first | (go_at_call 48; refine (isAmount_c _ _).mono ?_; rintro e w' ⟨rfl, rfl⟩) | (go_at_call 85; refine (isLarge_c _ _).mono ?_; rintro e w' ⟨rfl, rfl⟩))
      refine (mul64_c t n _ t0 (by omega) n0 (by omega)).mono ?_
      rintro e w' ⟨rfl, rfl⟩
      go_wp2_with fail
      refine (div64_c _ _ d _ hp0 hp2 hp3 (by omega) (by omega)).mono ?_
      rw [show p / 18446744073709551616 * 18446744073709551616 + p % 18446744073709551616 = p by omega]
      rintro e w' ⟨rfl, hw⟩
      go_wp2_with fail
      go_ret3
      exact ⟨ret_three (by rw [HQ.out, if_pos (by omega)]) (by rw [HR.out, if_pos (by omega)]) (by rw [HE.out, if_pos (by omega)]), hw⟩
    · have c2 : decide (1099511627776 < p / d) = true := by simp; omega
      go_enter Tryz.func49, Tryz.ntmps49
      go_wp2_with (first | (go_at_call 48; refine (isAmount_c _ _).mono ?_; rintro e w' ⟨rfl, rfl⟩) | (go_at_call 85; refine (isLarge_c _ _).mono ?_; rintro e w' ⟨rfl, rfl⟩))
      refine (mul64_c t n _ t0 (by omega) n0 (by omega)).mono ?_
      rintro e w' ⟨rfl, rfl⟩
      go_wp2_with fail
      refine (div64_c _ _ d _ hp0 hp2 hp3 (by omega) (by omega)).mono ?_
      rw [show p / 18446744073709551616 * 18446744073709551616 + p % 18446744073709551616 = p by omega]
      rintro e w' ⟨rfl, hw⟩
      go_wp2_with fail
      go_ret3
      exact ⟨ret_three (by rw [HQ.out, if_neg (by omega)]) (by rw [HR.out, if_neg (by omega)]) (by rw [HE.out, if_neg (by omega)]), hw⟩
theorem divide_c (t n d : Int) (w : World) :
    Calls Tryz.prog 49 #[.int .i64 t, .int .i64 n, .int .i64 d] w fun e w' => e = .returned (.tuple #[.int .u64 (divQ t n d), .int .u64 (divR t n d), .int .i64 (divE t n d)]) ∧ Q w w' := by
  cases h : divOk t n d
  · refine (divide_no t n d w h).mono ?_
    rintro e w' ⟨rfl, rfl⟩
    exact ⟨ret_three (by simp [divQ, h]) (by simp [divR, h]) (by simp [divE, h]), Q.refl _⟩
  · exact divide_yes t n d w h
end Go.Proofs.YtmeplpiamkaniaaGreat
namespace Go.Proofs.YtmeplpiamkaniaaGreat
set_option linter.unusedVariables false
set_option linter.unusedSimpArgs false
open Go.RowKit
def cmpI (x y : Int) : Int := if x < y then -1 else if y < x then 1 else 0
def orI (a b : Int) : Int := if a = 0 then b else a
set_option maxHeartbeats 400000 in
theorem cmpU64_c (x y : Int) (w : World) : Calls Tryz.prog 53 #[.int .u64 x, .int .u64 y] w fun e w' => e = .returned (.int .i64 (cmpI x y)) ∧ w = w' := by
  have n1 : (x != x) = false := by simp
  have n2 : (y != y) = false := by simp
  by_cases h1 : x < y
  · have HC := Lib.hid (show -1 = cmpI x y by simp [cmpI, h1])
    generalize cmpI x y = r at *
    go_enter Tryz.func53, Tryz.ntmps53
    go_wp2
    go_ret
    exact ⟨ret_int HC.out, rfl⟩
  · by_cases h2 : y < x
    · have HC := Lib.hid (show 1 = cmpI x y by simp [cmpI, h1, h2])
      generalize cmpI x y = r at *
      go_enter Tryz.func53, Tryz.ntmps53
      go_wp2
      go_ret
      exact ⟨ret_int HC.out, rfl⟩
    · have HC := Lib.hid (show 0 = cmpI x y by simp [cmpI, h1, h2])
      generalize cmpI x y = r at *
      go_enter Tryz.func53, Tryz.ntmps53
      go_wp2
      go_ret
      exact ⟨ret_int HC.out, rfl⟩
set_option maxHeartbeats 400000 in
theorem cmpI64_c (x y : Int) (w : World) : Calls Tryz.prog 54 #[.int .i64 x, .int .i64 y] w fun e w' => e = .returned (.int .i64 (cmpI x y)) ∧ w = w' := by
  have n1 : (x != x) = false := by simp
  have n2 : (y != y) = false := by simp
  by_cases h1 : x < y
  · have HC := Lib.hid (show -1 = cmpI x y by simp [cmpI, h1])
    generalize cmpI x y = r at *
    go_enter Tryz.func54, Tryz.ntmps54
    go_wp2
    go_ret
    exact ⟨ret_int HC.out, rfl⟩
  · by_cases h2 : y < x
    · have HC := Lib.hid (show 1 = cmpI x y by simp [cmpI, h1, h2])
      generalize cmpI x y = r at *
      go_enter Tryz.func54, Tryz.ntmps54
      go_wp2
      go_ret
      exact ⟨ret_int HC.out, rfl⟩
    · have HC := Lib.hid (show 0 = cmpI x y by simp [cmpI, h1, h2])
      generalize cmpI x y = r at *
      go_enter Tryz.func54, Tryz.ntmps54
      go_wp2
      go_ret
      exact ⟨ret_int HC.out, rfl⟩
set_option maxHeartbeats 400000 in
theorem cmpOr_c (g : Nat) (a b : Int) (w : World) (h0 : w.cell? ⟨g, 0, none⟩ = some (.int .i64 a)) (h1 : w.cell? ⟨g, 1, none⟩ = some (.int .i64 b)) :
    Calls Tryz.prog 52 #[.slice (some ⟨g, 0, none⟩) 2 2] w fun e w' => e = .returned (.int .i64 (orI a b)) ∧ w = w' := by
  by_cases ha : a = 0
  · subst ha
    have hne : ((0 : Int) != 0) = false := by simp
    by_cases hb : b = 0
    · subst hb
      go_enter Tryz.func52, Tryz.ntmps52
      go_wp2
      refine wp_loop_rounds 3 ?_
      rw [rounds_succ]
      go_wp2
      rw [rounds_succ]
      go_wp2
      rw [rounds_succ]
      go_wp2
      go_ret
      exact ⟨rfl, rfl⟩
    · have hnb : (b != 0) = true := by simpa using hb
      have HR := Lib.hid (show b = orI 0 b by simp [orI])
      generalize orI 0 b = r at *
      go_enter Tryz.func52, Tryz.ntmps52
      go_wp2
      refine wp_loop_rounds 2 ?_
      rw [rounds_succ]
      go_wp2
      rw [rounds_succ]
      go_wp2
      go_ret
      exact ⟨ret_int HR.out, rfl⟩
  · have hna : (a != 0) = true := by simpa using ha
    have HR := Lib.hid (show a = orI a b by simp [orI, ha])
    generalize orI a b = r at *
    go_enter Tryz.func52, Tryz.ntmps52
    go_wp2
    refine wp_loop_rounds 1 ?_
    rw [rounds_succ]
    go_wp2
    go_ret
    exact ⟨ret_int HR.out, rfl⟩
end Go.Proofs.YtmeplpiamkaniaaGreat
namespace Go.Proofs
set_option linter.unusedVariables false
set_option linter.unusedSimpArgs false
open Go.Shelf
def Tryz.revL_ren : Go.Shelf.Ren := ⟨fun | 35 => 63 | n => n, fun | 22 => 41 | 23 => 30 | 3 => 3 | 4 => 4 | 0 => 0 | n => n, fun | n => n⟩
theorem Tryz.revL : Go.Proofs.SlLaysE0.n35 Tryz.prog Tryz.revL_ren := {
  mixed := by kernel_rfl
  f35 := ⟨Tryz.f63.name, by decide, Tryz.func63.trans (congrArg some (by kernel_rfl))⟩
  t0 := Tryz.underlying0
  a0 := Tryz.isAgg0
  z0 := Tryz.sizeOf0
  v0 := Tryz.zeroValue0
  t3 := Tryz.underlying3
  a3 := Tryz.isAgg3
  z3 := Tryz.sizeOf3
  v3 := Tryz.zeroValue3
  t4 := Tryz.underlying4
  a4 := Tryz.isAgg4
  z4 := Tryz.sizeOf4
  v4 := Tryz.zeroValue4
  t22 := Tryz.underlying41
  a22 := Tryz.isAgg41
  z22 := Tryz.sizeOf41
  v22 := Tryz.zeroValue41 }
end Go.Proofs
