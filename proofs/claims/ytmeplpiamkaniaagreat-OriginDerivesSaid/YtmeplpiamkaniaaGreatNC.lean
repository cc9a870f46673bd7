/- Lemmas of the claim, joined: S4 S3 PK QP TM TN TO TP TQ QV Sh S5 S6 S7 Sr. No condition. -/
import Derived.Test.YtmeplpiamkaniaaGreatNB
import Derived.Test.YtmeplpiamkaniaaGreatChecked
import Derived.Test.YtmeplpiamkaniaaGreatNA
import Derived.Test.YtmeplpiamkaniaaGreatNQ
import Derived.Shelf.Small.Bits
import Derived.Shelf.Strconv.Itoa0
import Derived.Shelf.Bits.Mul64
import Derived.Test.YtmeplpiamkaniaaGreatProg
import Derived.Deep.DeepCutAuto
import Derived.Deep.CutBlock
import Derived.Laws.Bits64b
import Derived.Ground.SlgnProg
import Derived.Shelf.SlicesQ.Reverse
namespace Go.Proofs.YtmeplpiamkaniaaGreat
set_option linter.unusedVariables false
set_option linter.unusedSimpArgs false
def FirstMax (l : List Int) (n a : Nat) : Prop := a < n ∧ (∀ j, j < n → l.getD j 0 ≤ l.getD a 0) ∧ ∀ j, j < a → l.getD j 0 < l.getD a 0
theorem FirstMax.start (l : List Int) : FirstMax l 1 0 := ⟨by omega, fun j hj => by rw [show j = 0 by omega]; omega, fun j hj => by omega⟩
theorem FirstMax.more {l : List Int} {n a : Nat} (h : FirstMax l n a) (hl : l.getD a 0 < l.getD n 0) : FirstMax l (n + 1) n := by
  refine ⟨by omega, fun j hj => ?_, fun j hj => ?_⟩
  · by_cases e : j = n
    · subst e; omega
    · have := h.2.1 j (by omega); omega
  · have := h.2.1 j hj; omega
theorem FirstMax.keep {l : List Int} {n a : Nat} (h : FirstMax l n a) (hl : ¬ l.getD a 0 < l.getD n 0) : FirstMax l (n + 1) a := by
  refine ⟨by have := h.1; omega, fun j hj => ?_, h.2.2⟩
  by_cases e : j = n
  · subst e; omega
  · exact h.2.1 j (by omega)
end Go.Proofs.YtmeplpiamkaniaaGreat
namespace Go.Proofs.YtmeplpiamkaniaaGreat
set_option linter.unusedVariables false
set_option linter.unusedSimpArgs false
open Go.RowKit
def okL (x : Int) : Bool := decide (0 ≤ x) && decide (x ≤ 1152921504606846976)
set_option maxHeartbeats 400000 in
theorem aroundR (a m : Int) (w : World) (h1 : -9223372036854775808 ≤ a) (h2 : a ≤ 9223372036854775807) (hm : 0 < m) (hm2 : m ≤ 9223372036854775807) :
    Calls Tryz.prog 17 #[.int .i64 a, .int .i64 m] w fun e w' => e = .returned (.int .i64 (a % m)) ∧ w = w' := by
  have hz : (m == 0) = false := by simp; omega
  have hz1 : (m == -1) = false := by simp; omega
  have ht : -m < a.tmod m ∧ a.tmod m < m := ⟨Int.lt_tmod_of_pos a hm, Int.tmod_lt_of_pos a hm⟩
  obtain ⟨t1, t2⟩ := ht
  by_cases h : a.tmod m < 0
  · have HF := Lib.hid (show a.tmod m + m = a % m by
      have := Int.tmod_def a m; rw [Int.tmod_eq_emod] at h ⊢; split at h
      · have := Int.emod_nonneg a (show m ≠ 0 by omega); omega
      · split <;> omega)
    go_enter Tryz.func17, Tryz.ntmps17
    go_wp2
    go_ret
    exact ⟨ret_int HF.out, rfl⟩
  · have HF := Lib.hid (show a.tmod m = a % m by
      rw [Int.tmod_eq_emod] at h ⊢; split at h
      · rename_i hh; rw [if_pos hh]; omega
      · have := Int.emod_lt_of_pos a hm; omega)
    go_enter Tryz.func17, Tryz.ntmps17
    go_wp2
    go_ret
    exact ⟨ret_int HF.out, rfl⟩
end Go.Proofs.YtmeplpiamkaniaaGreat
namespace Go.Proofs.YtmeplpiamkaniaaGreat
set_option linter.unusedVariables false
set_option linter.unusedSimpArgs false
open Go.RowKit
def pk (l : List Int) (i : Nat) (m : Int) : Int := match l[i]? with | some x => x % m | none => 0
theorem pk_range (l : List Int) (i : Nat) {m : Int} (hm : 0 < m) : 0 ≤ pk l i m ∧ pk l i m < m := by
  unfold pk
  split
  · exact ⟨Int.emod_nonneg _ (by omega), Int.emod_lt_of_pos _ hm⟩
  · exact ⟨Int.le_refl _, hm⟩
set_option maxHeartbeats 1000000 in
theorem pick13_c (A : Option Addr) (n c : Nat) (l : List Int) (i : Nat) (m : Int) (w : World) (h : Nums .i64 w A n c l) (hi : i ≤ 1000000) (hm : 0 < m) (hm2 : m ≤ 9223372036854775807) :
    Calls Tryz.prog 27 #[.slice A n c, .int .i64 i, .int .i64 m] w fun e w' => e = .returned (.int .i64 (pk l i m)) ∧ E w w' := by
  have hnn := h.n63
  have d0 : decide ((i : Int) < 0) = false := decide_eq_false (by omega)
  have d2 : decide (m < 1) = false := decide_eq_false (by omega)
  by_cases hlt : (i : Int) < (n : Int)
  · obtain ⟨b, o, x, rfl, hb, hx, hwx, hcx⟩ := h.get (i := i) (by omega)
    have d1 : decide ((n : Int) ≤ (i : Int)) = false := decide_eq_false (by omega)
    have hi0 : (0 : Int) ≤ (i : Int) := by omega
    have HF := Lib.hid (show pk l i m = x % m by rw [pk, hx])
    have HA := Lib.hid (fun w => aroundR x m w (wf_i64 hwx).1 (wf_i64 hwx).2 hm hm2)
    clear hx
    go_enter Tryz.func27, Tryz.ntmps27
    go_wp2_with fail
    refine (HA.out _).mono ?_
    rintro e w' ⟨rfl, rfl⟩
    go_wp2_with fail
    go_ret
    exact ⟨ret_int HF.out.symm, E.refl _⟩
  · have HF := Lib.hid (show pk l i m = 0 by rw [pk, List.getElem?_eq_none (by rw [h.len]; omega)])
    have d1 : decide ((n : Int) ≤ (i : Int)) = true := decide_eq_true (by omega)
    go_enter Tryz.func27, Tryz.ntmps27
    go_wp2_with fail
    go_ret
    exact ⟨ret_int HF.out.symm, E.refl _⟩
theorem lots_made (w : World) (l : List Lt) (hw : ∀ x ∈ l, WfL x) (h0 : 0 < l.length) (hm : l.length ≤ 1000) : LotsAt (w.alloc (.cells (flatL l).toArray 30)) (some ⟨w.heap.size, 0, none⟩) l.length l.length l :=
  ⟨rfl, Nat.le_refl _, by unfold maxLen; omega, hw, fun _ => ⟨w.heap.size, 0, rfl, by simp, fun i x hi => by
    obtain ⟨h1, h2, h3⟩ := flatL_at l i x hi
    have hb := heap_alloc_new w (.cells (flatL l).toArray 30)
    have e : ∀ j u, (flatL l)[j]? = some u → (w.alloc (.cells (flatL l).toArray 30)).cell? ⟨w.heap.size, j, none⟩ = some u := fun j u hu => by
      rw [cell_of_row _ _ j _ _ _ hb, List.getElem?_toArray, hu]
    rw [Nat.zero_add]
    exact ⟨e _ _ h1, e _ _ h2, e _ _ h3⟩⟩⟩
theorem wfl_lit {f a n : Int} (h : 0 ≤ f ∧ f ≤ 100 ∧ 0 ≤ a ∧ a ≤ 100 ∧ 0 ≤ n ∧ n ≤ 100) : WfL (f, a, n) := ⟨wf_of_i64 (by simp only; omega) (by simp only; omega), wf_of_i64 (by simp only; omega) (by simp only; omega), wf_of_i64 (by simp only; omega) (by simp only; omega)⟩
theorem same_self (A1 A2 : Option Addr) (n1 c1 n2 c2 : Nat) (l : List Lt) (w : World) (h1 : LotsAt w A1 n1 c1 l) (h2 : LotsAt w A2 n2 c2 l) : Calls Tryz.prog 24 #[.slice A1 n1 c1, .slice A2 n2 c2] w (RetK w true) := by
  have h := sameL_c A1 A2 n1 c1 n2 c2 l l w h1 h2
  rw [show decide (l = l) = true from decide_eq_true rfl] at h
  exact h
end Go.Proofs.YtmeplpiamkaniaaGreat
namespace Go.Proofs.YtmeplpiamkaniaaGreat
set_option linter.unusedVariables false
set_option linter.unusedSimpArgs false
def srcF (fs : List Fl) (x : Lt) : List Lt := glue ((ul x).filterMap (srcU fs))
theorem has_get {fs : List Fl} {x : Lt} (h : hasF fs x = true) : ∃ f, getF fs x.1 = some f ∧ f ∈ fs ∧ f.id = x.1 ∧ 0 ≤ x.2.1 ∧ 1 ≤ x.2.2 ∧ x.2.1 + x.2.2 ≤ f.n := by
  obtain ⟨h1, f, h2, h3⟩ := hasF_iff.1 h
  have h1 := possB_iff.1 h1
  exact ⟨f, h2, (getF_some h2).1, (getF_some h2).2, h1.2.1, h1.2.2.2.1, h3⟩
theorem src_new {fs : List Fl} {x : Lt} {f : Fl} (hf : getF fs x.1 = some f) (hp : f.parts = []) : (ul x).filterMap (srcU fs) = [] := by
  rw [List.filterMap_eq_nil_iff]
  intro u hu
  exact src_none (by rw [(mem_ul.1 hu).1]; exact hf) hp
theorem srcF_new {fs : List Fl} {x : Lt} {f : Fl} (hf : getF fs x.1 = some f) (hp : f.parts = []) : srcF fs x = [] := by
  rw [srcF, src_new hf hp]; rfl
theorem src_cut {fs : List Fl} (hg : GOk fs) {x : Lt} (h : hasF fs x = true) {f : Fl} (hf : getF fs x.1 = some f) (hp : f.parts ≠ []) : (ul x).filterMap (srcU fs) = cutU f.parts x.2.1 x.2.2 := by
  obtain ⟨f', h1, h2, _, h4, h5, h6⟩ := has_get h
  rw [hf] at h1
  injection h1 with h1
  subst h1
  have := hg.len h2 hp
  exact srcs_eq hf h4 (by omega) (by omega)
theorem src_len {fs : List Fl} (hg : GOk fs) {x : Lt} (h : hasF fs x = true) {f : Fl} (hf : getF fs x.1 = some f) (hp : f.parts ≠ []) : ((ul x).filterMap (srcU fs)).length = x.2.2.toNat := by
  rw [src_cut hg h hf hp, cutU, List.length_take, List.length_drop]
  obtain ⟨f', h1, h2, _, h4, h5, h6⟩ := has_get h
  rw [hf] at h1
  injection h1 with h1
  subst h1
  have := hg.len h2 hp
  omega
theorem U_srcF (fs : List Fl) (x : Lt) : U (srcF fs x) = (ul x).filterMap (srcU fs) := U_glue _
theorem src_roots {fs : List Fl} {r : Un → Un} (hr : RootOf fs r) : ∀ {us : List Un}, (∀ u ∈ us, ∃ v, srcU fs u = some v) → (us.filterMap (srcU fs)).map r = us.map r
  | [], _ => rfl
  | u :: us, h => by
    obtain ⟨v, hv⟩ := h u List.mem_cons_self
    rw [List.filterMap_cons, hv, List.map_cons, List.map_cons, hr.some_ hv, src_roots hr fun w hw => h w (List.mem_cons_of_mem _ hw)]
theorem srcF_roots {fs : List Fl} (hg : GOk fs) {r : Un → Un} (hr : RootOf fs r) {x : Lt} (h : hasF fs x = true) {f : Fl} (hf : getF fs x.1 = some f) (hp : f.parts ≠ []) : (U (srcF fs x)).map r = (ul x).map r := by
  rw [U_srcF, src_roots hr fun u hu => hg.src_some (hasF_units h u hu) (by rw [(mem_ul.1 hu).1]; exact hf) hp]
theorem new_roots {fs : List Fl} {r : Un → Un} (hr : RootOf fs r) {x : Lt} {f : Fl} (hf : getF fs x.1 = some f) (hp : f.parts = []) : (ul x).map r = ul x := by
  have : ∀ u ∈ ul x, r u = id u := fun u hu => hr.none_ (src_none (by rw [(mem_ul.1 hu).1]; exact hf) hp)
  rw [List.map_congr_left this, List.map_id]
theorem srcF_has {fs : List Fl} (hg : GOk fs) {x : Lt} : ∀ y ∈ srcF fs x, hasF fs y = true := fun y hy => by
  have hgl := glue_glued ((ul x).filterMap (srcU fs))
  refine (poss_units hg (hgl.mem y hy) fun u hu => ?_).2
  have hm : u ∈ U (srcF fs x) := mem_U.2 ⟨y, hy, hu⟩
  rw [U_srcF] at hm
  obtain ⟨v, _, hv⟩ := List.mem_filterMap.1 hm
  exact (hg.src hv).1
theorem srcF_ne {fs : List Fl} (hg : GOk fs) {x : Lt} (h : hasF fs x = true) {f : Fl} (hf : getF fs x.1 = some f) (hp : f.parts ≠ []) : srcF fs x ≠ [] := fun e => by
  have h1 := src_len hg h hf hp
  rw [← U_srcF, e] at h1
  obtain ⟨_, _, _, _, _, h5, _⟩ := has_get h
  simp [U_nil] at h1
  omega
theorem srcF_refs {fs : List Fl} (hg : GOk fs) {x : Lt} {f : Fl} (hf : getF fs x.1 = some f) : ∀ y ∈ srcF fs x, y.1 ∈ refsF f := fun y hy => by
  have hgl := glue_glued ((ul x).filterMap (srcU fs))
  have hm : (y.1, y.2.1) ∈ U (srcF fs x) := mem_U.2 ⟨y, hy, mem_ul.2 ⟨rfl, by simp only; omega, by have := hgl.mem y hy; simp only; omega⟩⟩
  rw [U_srcF] at hm
  obtain ⟨u, hu, hv⟩ := List.mem_filterMap.1 hm
  obtain ⟨_, f', h1, h2, _⟩ := hg.src hv
  rw [(mem_ul.1 hu).1, hf] at h1
  injection h1 with h1
  subst h1
  exact h2
def rootF (fs : List Fl) (r : Un → Un) (x : Lt) : List Lt := if hasF fs x then glue ((ul x).map r) else []
theorem RootOf.inG {fs : List Fl} (hg : GOk fs) {r : Un → Un} (hr : RootOf fs r) : ∀ u, InG fs u → InG fs (r u) := by
  obtain ⟨rk, hrk⟩ := hg.rk
  have key : ∀ n u, rk u.1 < n → InG fs u → InG fs (r u) := by
    intro n
    induction n with
    | zero => intro u h; omega
    | succ n ih =>
      intro u hn hu
      cases hv : srcU fs u with
      | none => rw [hr.none_ hv]; exact hu
      | some v =>
        rw [hr.some_ hv]
        obtain ⟨h1, f, h2, h3, _⟩ := hg.src hv
        have := hrk f (getF_some h2).1 v.1 h3
        rw [(getF_some h2).2] at this
        exact ih v (by omega) h1
  exact fun u => key _ u (Nat.lt_succ_self _)
structure RtSt (fs : List Fl) (r : Un → Un) (x : Lt) (waiting : List Lt) (us : List Un) : Prop where
  has : ∀ y ∈ waiting, hasF fs y = true
  all : us ++ waiting.reverse.flatMap (fun y => (ul y).map r) = (ul x).map r
theorem flat_roots (r : Un → Un) (l : List Lt) : l.flatMap (fun y => (ul y).map r) = (U l).map r := by
  induction l with
  | nil => rfl
  | cons x l ih => rw [List.flatMap_cons, ih, U_cons, List.map_append]
section
variable {fs : List Fl} {r : Un → Un} {x next : Lt} {waiting : List Lt} {us : List Un}
theorem RtSt.start (h : hasF fs x = true) : RtSt fs r x [x] [] := ⟨by simpa using h, by simp⟩
theorem RtSt.new (h : RtSt fs r x (waiting ++ [next]) us) (hr : RootOf fs r) {f : Fl} (hf : getF fs next.1 = some f) (hp : f.parts = []) : RtSt fs r x waiting (us ++ ul next) :=
  ⟨fun y hy => h.has y (List.mem_append_left _ hy), by
    have := h.all
    rw [List.reverse_append, List.flatMap_append] at this
    simp only [List.reverse_singleton, List.flatMap_cons, List.flatMap_nil, List.append_nil] at this
    rw [new_roots hr hf hp, ← List.append_assoc] at this
    exact this⟩
theorem RtSt.more (h : RtSt fs r x (waiting ++ [next]) us) (hg : GOk fs) (hr : RootOf fs r) {f : Fl} (hf : getF fs next.1 = some f) (hp : f.parts ≠ []) : RtSt fs r x (waiting ++ (srcF fs next).reverse) us :=
  ⟨fun y hy => by
    rcases List.mem_append.1 hy with hy | hy
    · exact h.has y (List.mem_append_left _ hy)
    · exact srcF_has hg y (List.mem_reverse.1 hy), by
    have := h.all
    rw [List.reverse_append, List.flatMap_append] at this
    simp only [List.reverse_singleton, List.flatMap_cons, List.flatMap_nil, List.append_nil] at this
    rw [List.reverse_append, List.reverse_reverse, List.flatMap_append, flat_roots, srcF_roots hg hr (h.has next (by simp)) hf hp]
    exact this⟩
theorem RtSt.done (h : RtSt fs r x [] us) (hx : hasF fs x = true) : glue us = rootF fs r x := by
  have := h.all
  simp at this
  rw [rootF, if_pos hx, this]
theorem RtSt.cnt (h : RtSt fs r x waiting us) : us.length + waiting.length ≤ x.2.2.toNat := by
  have := congrArg List.length h.all
  rw [List.length_append, List.length_map, ul_len, flat_roots, List.length_map] at this
  have h2 := len_units (l := waiting.reverse) (fun y hy => by obtain ⟨_, _, _, _, _, h5, _⟩ := has_get (h.has y (List.mem_reverse.1 hy)); exact h5)
  rw [List.length_reverse] at h2
  omega
end
def rtM (rk : Int → Nat) (l : List Lt) : Nat := (l.map fun y => y.2.2.toNat * (rk y.1 + 1)).sum
theorem rtM_app (rk : Int → Nat) (a b : List Lt) : rtM rk (a ++ b) = rtM rk a + rtM rk b := by simp [rtM]
theorem rtM_rev (rk : Int → Nat) (a : List Lt) : rtM rk a.reverse = rtM rk a := by
  induction a with
  | nil => rfl
  | cons x a ih => rw [List.reverse_cons, rtM_app, ih]; simp [rtM]; omega
theorem rtM_one (rk : Int → Nat) (y : Lt) (h : 1 ≤ y.2.2) : 1 ≤ rtM rk [y] := by
  have h1 : 1 ≤ y.2.2.toNat := by omega
  have := Nat.mul_le_mul h1 (Nat.le_add_left 1 (rk y.1))
  simpa [rtM] using this
theorem rtM_le {rk : Int → Nat} {k : Nat} : ∀ {l : List Lt}, (∀ y ∈ l, rk y.1 + 1 ≤ k ∧ 0 ≤ y.2.2) → rtM rk l ≤ (U l).length * k
  | [], _ => Nat.zero_le _
  | y :: l, h => by
    have h1 := rtM_le (rk := rk) (k := k) (l := l) fun z hz => h z (List.mem_cons_of_mem _ hz)
    obtain ⟨h2, _⟩ := h y List.mem_cons_self
    have h3 : rtM rk (y :: l) = y.2.2.toNat * (rk y.1 + 1) + rtM rk l := rfl
    rw [h3, U_cons, List.length_append, ul_len, Nat.add_mul]
    exact Nat.add_le_add (Nat.mul_le_mul (Nat.le_refl _) h2) h1
theorem rtM_src {fs : List Fl} (hg : GOk fs) {rk : Int → Nat} (hrk : ∀ f ∈ fs, ∀ j ∈ refsF f, rk j < rk f.id) {next : Lt} (h : hasF fs next = true) {f : Fl} (hf : getF fs next.1 = some f) (hp : f.parts ≠ []) : rtM rk (srcF fs next) < rtM rk [next] := by
  have h1 : rtM rk (srcF fs next) ≤ (U (srcF fs next)).length * rk next.1 := rtM_le fun y hy => by
    obtain ⟨_, _, _, _, _, h5, _⟩ := has_get (srcF_has hg y hy)
    have := hrk f (getF_some hf).1 y.1 (srcF_refs hg hf y hy)
    rw [(getF_some hf).2] at this
    exact ⟨this, by omega⟩
  rw [U_srcF, src_len hg h hf hp] at h1
  obtain ⟨_, _, _, _, _, h5, _⟩ := has_get h
  have h2 : rtM rk [next] = next.2.2.toNat * (rk next.1 + 1) := by simp [rtM]
  rw [h2, Nat.mul_add]
  omega
end Go.Proofs.YtmeplpiamkaniaaGreat
namespace Go.Proofs.YtmeplpiamkaniaaGreat
set_option linter.unusedVariables false
set_option linter.unusedSimpArgs false
open Go.RowKit Go.Shelf
attribute [local go_sem] Oper.semAt_some
end Go.Proofs.YtmeplpiamkaniaaGreat
namespace Go.Proofs.YtmeplpiamkaniaaGreat
set_option linter.unusedVariables false
set_option linter.unusedSimpArgs false
open Go.RowKit Go.Shelf
attribute [local go_sem] Oper.semAt_some
theorem yield_round {P : Program} {m l : Nat} {r : Loop} {W W2 : World} {args : Array Value} (hl : W.heap[l]? = some (.loop r)) (hl2 : W2.heap[l]? = some (.loop r)) (hr : r.state = .ready) (hp : r.pending = none) (hs : args.size = r.params.size) {a₁ : Act} {R : World → Prop} {Rx : World → Prop}
    (hassign : ∀ (K : Act → World → Prop), K a₁ W2 → r.assign.wpIn (Fence.wide.inRound l) m P (Exit.then K (fun _ _ _ => False)) { tmps := (r.params.zip args).foldl (fun t (p, v) => t.setIfInBounds p v) r.tmps, defers := [] } W)
    (hbody : r.body.wpIn (Fence.wide.inRound l) m P (fun e _ V => V.heap[l]? = some (.loop { r with state := .busy }) ∧ ((e = .normal ∧ R (V.putObj l (.loop r))) ∨ (e = .ret ∧ Rx (V.putObj l (.loop { r with state := .done, pending := some .ret }))))) a₁ (W2.putObj l (.loop { r with state := .busy }))) :
    YieldAt Fence.wide m P l args W fun e W' => (e = .returned (.bool true) ∧ R W') ∨ (e = .returned (.bool false) ∧ Rx W') := by
  refine ⟨r.fn, _, r.assign, r.body, run_yield hl hs, roundIn_of_wpIn trivial (hassign _ ⟨_, run_beginRound hl2 hr, wpIn_mono hbody ?_⟩)⟩
  rintro e a V ⟨hV, hor⟩
  rcases hor with ⟨rfl, hR⟩ | ⟨rfl, hR⟩
  · refine ⟨_, _, run_endRound none hV, .inl ⟨rfl, ?_⟩⟩
    obtain ⟨st, pe, fn, tmps, ps, asg, bo, df⟩ := r
    simp only at hr hp hR ⊢
    subst hr hp
    exact hR
  · exact ⟨_, _, run_endRound (some .ret) hV, .inr ⟨rfl, hR⟩⟩
theorem wp_rangeX {P : Program} {g : Operand} {ps : Array Tmp} {assign body : Code} {Q : Exit → Act → World → Prop} {a : Act} {w : World} {gf : Nat} {lb : Array Value} (hg : a.eval g = .func (.func gf) #[] lb) (eg : ∀ args w, (callFunc gf args).run P w = .ok (.enter gf args) w) {Post PostX : World → Prop}
    (hit : ∀ r : Loop, r.state = .ready → r.pending = none → r.tmps = a.tmps → r.params = ps → r.assign = assign → r.body = body → Calls P gf (#[.func (.yield (w.heap.size + 1)) #[] #[]] ++ lb) ((w.alloc (.deferred (some []))).alloc (.loop r))
      fun e W' => (∃ v, e = .returned v) ∧ ((W'.heap[w.heap.size + 1]? = some (.loop r) ∧ Post W') ∨ (W'.heap[w.heap.size + 1]? = some (.loop { r with state := .done, pending := some .ret }) ∧ PostX W')))
    (hdone : ∀ (W' : World) (o : Obj), Post W' → w.heap.size + 1 < W'.heap.size → Q .normal { a with defers := { target := .collected w.heap.size, args := #[] } :: a.defers } (W'.putObj (w.heap.size + 1) o))
    (hstop : ∀ (W' : World) (o : Obj), PostX W' → w.heap.size + 1 < W'.heap.size → Code.ret.wp P Q { a with defers := { target := .collected w.heap.size, args := #[] } :: a.defers } (W'.putObj (w.heap.size + 1) o)) :
    (Code.rangeFunc g ps assign body).wp P Q a w := by
  refine (wpIn_wide (n := 3)).1 (wpIn_rangeFunc ?_)
  intro fn hfn
  have hit' := hit { state := .ready, pending := none, fn, tmps := a.tmps, params := ps, assign, body, defers := w.heap.size } rfl rfl rfl rfl rfl rfl
  obtain ⟨W1, hW1⟩ : ∃ W1, (w.alloc (.deferred (some []))).alloc (.loop { state := .ready, pending := none, fn, tmps := a.tmps, params := ps, assign, body, defers := w.heap.size }) = W1 := ⟨_, rfl⟩
  rw [hW1] at hit'
  refine ⟨w.heap.size + 1, [{ target := .collected w.heap.size, args := #[] }], W1, { target := .fn (.func gf) lb, args := #[.func (.yield (w.heap.size + 1)) #[] #[]] }, W1, gf,
    #[.func (.yield (w.heap.size + 1)) #[] #[]] ++ lb, W1, ?_, ?_, ?_, ?_, ?_, ?_⟩
  · rw [← hW1]; exact run_enterLoop_outer _ _ _ _ _
  · simp only [resolve, hg]
    simp [go_sem]
  · intro f' hf'; trivial
  · simp [invoke, go_sem, eg]
  · intro h; cases h
  · refine callsIn_wide.2 (hit'.mono ?_)
    rintro e W2 ⟨⟨v, rfl⟩, ⟨hl, hP⟩ | ⟨hl, hP⟩⟩
    · exact ⟨none, _, run_endLoop hl (by simp), hdone _ _ hP (lt_blk hl)⟩
    · exact ⟨some .ret, _, run_endLoop hl (by simp), wpIn_wide.2 (hstop _ _ hP (lt_blk hl))⟩
end Go.Proofs.YtmeplpiamkaniaaGreat
namespace Go.Proofs.YtmeplpiamkaniaaGreat
set_option linter.unusedVariables false
set_option linter.unusedSimpArgs false
open Go.RowKit Go.Shelf
theorem OwnL.same {w w' : World} {base : Nat} {A : Option Addr} {n c : Nat} {l : List Lt} (h : OwnL w base A n c l) (hb : ∀ b, ob A = some b → w'.heap[b]? = w.heap[b]?) : OwnL w' base A n c l := by
  refine ⟨h.1, ⟨h.2.1.1, ?_⟩, h.2.2⟩
  rcases h.2.1.2 with a2 | ⟨g, cap, cur, hv, hbg, hh, r⟩
  · exact .inl a2
  · have hA : A = some ⟨g, 0, none⟩ := by injection hv
    exact .inr ⟨g, cap, cur, hv, hbg, (hb g (by rw [hA]; rfl)).trans hh, r⟩
structure DVL (b0 L D B1 B2 : Nat) (r : Loop) (W : World) (A1 : Option Addr) (n1 c1 : Nat) (l1 : List Lt) (A2 : Option Addr) (n2 c2 : Nat) (l2 : List Lt) : Prop where
  lt : L < b0 ∧ D < b0 ∧ B1 < b0 ∧ B2 < b0
  ne : B1 ≠ B2 ∧ B1 ≠ L ∧ B1 ≠ D ∧ B2 ≠ L ∧ B2 ≠ D ∧ D ≠ L
  l : W.heap[L]? = some (.loop r)
  d : W.heap[D]? = some (.deferred (some []))
  b1 : W.heap[B1]? = some (.cells #[.slice A1 n1 c1] 41 (0, 0))
  b2 : W.heap[B2]? = some (.cells #[.slice A2 n2 c2] 41 (0, 0))
  o1 : OwnL W b0 A1 n1 c1 l1
  o2 : OwnL W b0 A2 n2 c2 l2
  ap : apartS A1 A2
  p1 : ∀ y ∈ l1, possB y = true
  p2 : ∀ y ∈ l2, possB y = true
def XV (L D B1 B2 : Nat) (A1 A2 : Option Addr) (i : Nat) : Prop := i = L ∨ i = D ∨ i = B1 ∨ i = B2 ∨ ob A1 = some i ∨ ob A2 = some i
theorem XV.swap {L D B1 B2 : Nat} {A1 A2 : Option Addr} {i : Nat} (h : XV L D B1 B2 A1 A2 i) : XV L D B2 B1 A2 A1 i := by
  rcases h with h | h | h | h | h | h
  · exact .inl h
  · exact .inr (.inl h)
  · exact .inr (.inr (.inr (.inl h)))
  · exact .inr (.inr (.inl h))
  · exact .inr (.inr (.inr (.inr (.inr h))))
  · exact .inr (.inr (.inr (.inr (.inl h))))
section
variable {b0 L D B1 B2 : Nat} {r : Loop} {W : World} {A1 A2 : Option Addr} {n1 c1 n2 c2 : Nat} {l1 l2 : List Lt}
theorem DVL.swap (h : DVL b0 L D B1 B2 r W A1 n1 c1 l1 A2 n2 c2 l2) : DVL b0 L D B2 B1 r W A2 n2 c2 l2 A1 n1 c1 l1 :=
  ⟨⟨h.lt.1, h.lt.2.1, h.lt.2.2.2, h.lt.2.2.1⟩, ⟨h.ne.1.symm, h.ne.2.2.2.1, h.ne.2.2.2.2.1, h.ne.2.1, h.ne.2.2.1, h.ne.2.2.2.2.2⟩, h.l, h.d, h.b2, h.b1, h.o2, h.o1, h.ap.symm, h.p2, h.p1⟩
theorem DVL.xlt (h : DVL b0 L D B1 B2 r W A1 n1 c1 l1 A2 n2 c2 l2) {i : Nat} (hi : XV L D B1 B2 A1 A2 i) : i < W.heap.size := by
  rcases hi with rfl | rfl | rfl | rfl | hi | hi
  · exact lt_blk h.l
  · exact lt_blk h.d
  · exact lt_blk h.b1
  · exact lt_blk h.b2
  · exact (h.o1.ltN i hi).2
  · exact (h.o2.ltN i hi).2
theorem DVL.keep (h : DVL b0 L D B1 B2 r W A1 n1 c1 l1 A2 n2 c2 l2) {W' : World} (hk : ∀ i, XV L D B1 B2 A1 A2 i → W'.heap[i]? = W.heap[i]?) : DVL b0 L D B1 B2 r W' A1 n1 c1 l1 A2 n2 c2 l2 :=
  ⟨h.lt, h.ne, (hk _ (.inl rfl)).trans h.l, (hk _ (.inr (.inl rfl))).trans h.d, (hk _ (.inr (.inr (.inl rfl)))).trans h.b1, (hk _ (.inr (.inr (.inr (.inl rfl))))).trans h.b2,
    h.o1.same fun b hb => hk b (.inr (.inr (.inr (.inr (.inl hb))))), h.o2.same fun b hb => hk b (.inr (.inr (.inr (.inr (.inr hb))))), h.ap, h.p1, h.p2⟩
theorem DVL.step (h : DVL b0 L D B1 B2 r W A1 n1 c1 l1 A2 n2 c2 l2) (hb0 : b0 ≤ W.heap.size) {o : Obj} {r' : Loop} {V4 : World} {A' : Option Addr} {n' c' : Nat} {l' : List Lt} (hO : OwnL V4 b0 A' n' c' l') (hG : ((W.alloc o).putObj L (.loop r')).grownBy V4 (ob A1))
    (hor : ob A' = ob A1 ∨ ∀ b, ob A' = some b → ((W.alloc o).putObj L (.loop r')).heap.size ≤ b) (hp : ∀ y ∈ l', possB y = true) :
    (V4.setCell ⟨B1, 0, none⟩ (.slice A' n' c')).heap[L]? = some (.loop r') ∧ DVL b0 L D B1 B2 r ((V4.setCell ⟨B1, 0, none⟩ (.slice A' n' c')).putObj L (.loop r)) A' n' c' l' A2 n2 c2 l2 ∧
      Ex (XV L D B1 B2 A1 A2) W ((V4.setCell ⟨B1, 0, none⟩ (.slice A' n' c')).putObj L (.loop r)) ∧ ∀ i, XV L D B1 B2 A' A2 i → XV L D B1 B2 A1 A2 i ∨ W.heap.size ≤ i := by
  obtain ⟨q1, q2, q3, q4⟩ := h.lt
  obtain ⟨m1, m2, m3, m4, m5, m6⟩ := h.ne
  have hA1 : ∀ b, ob A1 = some b → b0 ≤ b := fun b hb => (h.o1.ltN b hb).1
  have hA' : ∀ b, ob A' = some b → b0 ≤ b := fun b hb => (hO.ltN b hb).1
  have hVs : ((W.alloc o).putObj L (.loop r')).heap.size = W.heap.size + 1 := by rw [World.putObj_size, World.size_alloc]
  have x0 : Ex (fun i => i = L) W ((W.alloc o).putObj L (.loop r')) := ((Ex.refl (fun i => i = L) W).alloc o).put L _ (.inr rfl)
  have x1 : Ex (fun i => i = L ∨ ob A1 = some i) W V4 := (x0.mono (Z := fun i => i = L ∨ ob A1 = some i) (fun _ _ x => .inl x)).grown hG (fun k hk => .inr (.inr hk))
  have x2 : Ex (fun i => i = L ∨ i = B1 ∨ ob A1 = some i) W (V4.setCell ⟨B1, 0, none⟩ (.slice A' n' c')) :=
    (x1.mono (Z := fun i => i = L ∨ i = B1 ∨ ob A1 = some i) (fun _ _ x => x.elim .inl (fun x => .inr (.inr x)))).setCell ⟨B1, 0, none⟩ (.inr (.inr (.inl rfl))) _
  have x3 : Ex (fun i => i = L ∨ i = B1 ∨ ob A1 = some i) W ((V4.setCell ⟨B1, 0, none⟩ (.slice A' n' c')).putObj L (.loop r)) := x2.put L _ (.inr (.inl rfl))
  have hl0 : ((W.alloc o).putObj L (.loop r')).heap[L]? = some (.loop r') := World.putObj_heap_same (by rw [World.size_alloc]; omega)
  have hl4 : V4.heap[L]? = some (.loop r') := (hG.block L (by omega) (fun e => by have := hA1 L e.symm; omega)).trans hl0
  have hb4 : V4.heap[B1]? = some (.cells #[.slice A1 n1 c1] 41 (0, 0)) := (x1.block B1 (lt_blk h.b1) (fun x => by
    rcases x with x | x
    · exact m2 x
    · have := hA1 B1 x; omega)).trans h.b1
  have hl5 : (V4.setCell ⟨B1, 0, none⟩ (.slice A' n' c')).heap[L]? = some (.loop r') := (Below.heap_setCell _ _ _ _ (fun e => m2 e.symm)).trans hl4
  refine ⟨hl5, ⟨h.lt, h.ne, ?_, ?_, ?_, ?_, ?_, ?_, ?_, hp, h.p2⟩, x3.mono (fun i _ x => ?_), fun i hi => ?_⟩
  · exact World.putObj_heap_same (lt_blk hl5)
  · exact (x3.block D (lt_blk h.d) (fun x => by
      rcases x with x | x | x
      · exact m6 x
      · exact m3 x.symm
      · have := hA1 D x; omega)).trans h.d
  · rw [World.putObj_heap_other m2]
    exact heap_setCell_same _ _ 0 _ _ _ hb4
  · exact (x3.block B2 (lt_blk h.b2) (fun x => by
      rcases x with x | x | x
      · exact m4 x
      · exact m1 x.symm
      · have := hA1 B2 x; omega)).trans h.b2
  · refine hO.same fun b hb => ?_
    have := hA' b hb
    rw [World.putObj_heap_other (by omega), Below.heap_setCell _ _ _ _ (by show b ≠ B1; omega)]
  · exact h.o2.ex x3 (fun b hb x => by
      have := (h.o2.ltN b hb).1
      rcases x with x | x | x
      · omega
      · omega
      · exact h.ap b x hb)
  · intro b hb hb2
    rcases hor with e | e
    · exact h.ap b (e ▸ hb) hb2
    · have := e b hb
      have := (h.o2.ltN b hb2).2
      omega
  · rcases x with x | x | x
    · exact .inl x
    · exact .inr (.inr (.inl x))
    · exact .inr (.inr (.inr (.inr (.inl x))))
  · rcases hi with hi | hi | hi | hi | hi | hi
    · exact .inl (.inl hi)
    · exact .inl (.inr (.inl hi))
    · exact .inl (.inr (.inr (.inl hi)))
    · exact .inl (.inr (.inr (.inr (.inl hi))))
    · rcases hor with e | e
      · exact .inl (.inr (.inr (.inr (.inr (.inl (e ▸ hi))))))
      · right
        have := e i hi
        omega
    · exact .inl (.inr (.inr (.inr (.inr (.inr hi)))))
end
def sel (b : Bool) (ps : List (Lt × Bool)) : List Lt := (ps.filter fun p => p.2 == b).map Prod.fst
theorem sel_app (b : Bool) (ps qs : List (Lt × Bool)) : sel b (ps ++ qs) = sel b ps ++ sel b qs := by simp [sel]
theorem sel_hit (b : Bool) (ps : List (Lt × Bool)) (x : Lt) : putL [] (sel b (ps ++ [(x, b)])) = addL (putL [] (sel b ps)) x := by
  rw [sel_app, show sel b [(x, b)] = [x] by simp [sel], putL_snoc]
theorem sel_miss (b : Bool) (ps : List (Lt × Bool)) (x : Lt) : putL [] (sel (!b) (ps ++ [(x, b)])) = putL [] (sel (!b) ps) := by
  rw [sel_app, show sel (!b) [(x, b)] = [] by cases b <;> simp [sel], List.append_nil]
theorem putL_len (l s : List Lt) : (putL s l).length ≤ s.length + l.length := by
  induction l generalizing s with
  | nil => simp [putL]
  | cons x l ih =>
    have h1 := ih (addL s x)
    have h2 := add_len s x
    rw [putL_cons, List.length_cons]
    omega
theorem sel_len (b : Bool) (ps : List (Lt × Bool)) : (putL [] (sel b ps)).length ≤ ps.length := by
  have h1 := putL_len (sel b ps) []
  have h2 : (sel b ps).length ≤ ps.length := by rw [sel, List.length_map]; exact List.length_filter_le _ _
  simp only [List.length_nil] at h1
  omega
def JV (b0 L D B1 B2 : Nat) (r : Loop) (ps : List (Lt × Bool)) (X : Nat → Prop) (W : World) : Prop :=
  ∃ A1 n1 c1 A2 n2 c2, DVL b0 L D B1 B2 r W A1 n1 c1 (putL [] (sel true ps)) A2 n2 c2 (putL [] (sel false ps)) ∧ X = XV L D B1 B2 A1 A2
end Go.Proofs.YtmeplpiamkaniaaGreat
namespace Go.Proofs.YtmeplpiamkaniaaGreat
set_option linter.unusedVariables false
set_option linter.unusedSimpArgs false
open Go.RowKit Go.Shelf
attribute [local go_sem] Oper.semAt_some
theorem results_cell2 {fn : Func} {t u : Tmp} {T : TypeId} (h : fn.results = #[.cell t T, .cell u T]) {tmps : Array Value} {P : Program} {w : World} {b1 b2 : Nat} {v1 v2 : Value} (h1 : tmps.getD t undef = .pointer (some ⟨b1, 0, none⟩)) (h2 : tmps.getD u undef = .pointer (some ⟨b2, 0, none⟩))
    (l1 : (loadVar T ⟨b1, 0, none⟩).run P w = .ok v1 w) (l2 : (loadVar T ⟨b2, 0, none⟩).run P w = .ok v2 w) : (results fn tmps).run P w = .ok (.tuple #[v1, v2]) w := by
  have h1' : tmps[t]?.getD undef = .pointer (some ⟨b1, 0, none⟩) := by simpa using h1
  have h2' : tmps[u]?.getD undef = .pointer (some ⟨b2, 0, none⟩) := by simpa using h2
  simp [results, h, h1', h2', l1, l2, asAddr, Result.andThen]
theorem loadVar_lots {w : World} {b : Nat} {A : Option Addr} {n c : Nat} (h : w.cell? ⟨b, 0, none⟩ = some (.slice A n c)) : (loadVar 41 ⟨b, 0, none⟩).run Tryz.prog w = .ok (.slice A n c) w := by
  simp [loadVar, Tryz.isAgg41, go_sem, h]
def RetDiv (w : World) (Y : Nat → Prop) (l1 l2 : List Lt) (e : Ending) (w' : World) : Prop :=
  ∃ A1 n1 c1 A2 n2 c2, e = .returned (.tuple #[.slice A1 n1 c1, .slice A2 n2 c2]) ∧ OwnL w' w.heap.size A1 n1 c1 l1 ∧ OwnL w' w.heap.size A2 n2 c2 l2 ∧ apartS A1 A2 ∧ (∀ y ∈ l1, possB y = true) ∧ (∀ y ∈ l2, possB y = true) ∧ Ex Y w w'
end Go.Proofs.YtmeplpiamkaniaaGreat
namespace Go.Proofs.YtmeplpiamkaniaaGreat
set_option linter.unusedVariables false
set_option linter.unusedSimpArgs false
open Go.RowKit Go.Shelf
def RetLE (w : World) (r : List Lt × Int) (e : Ending) (w' : World) : Prop := ∃ A n c, e = .returned (.tuple #[.slice A n c, .int .i64 r.2]) ∧ OwnL w' w.heap.size A n c r.1 ∧ E w w'
theorem RetLE.mk_ {w w' : World} {r : List Lt × Int} {A : Option Addr} {n c : Nat} {l : List Lt} {e : Int} (hr : r = (l, e)) (hO : OwnL w' w.heap.size A n c l) (hE : E w w') : RetLE w r (.returned (.tuple #[.slice A n c, .int .i64 e])) w' := ⟨A, n, c, by rw [hr], by rw [hr]; exact hO, hE⟩
theorem RetLE.none_ {w w' : World} {r : List Lt × Int} {e : Int} (hr : r = ([], e)) (hE : E w w') : RetLE w r (.returned (.tuple #[.slice none 0 0, .int .i64 e])) w' := RetLE.mk_ hr (OwnL.nil _ _) hE
theorem glue_poss {us : List Un} (h : ∀ u ∈ us, 0 ≤ u.1 ∧ 0 ≤ u.2 ∧ u.2 < 1099511627776) : ∀ x ∈ glue us, possB x = true := fun x hx => by
  have hg := (glue_glued us).mem x hx
  have hu : ∀ u ∈ ul x, u ∈ us := fun u hu => by rw [← U_glue us]; exact mem_U.2 ⟨x, hx, hu⟩
  have h1 := h (x.1, x.2.1) (hu _ (mem_ul.2 ⟨rfl, by simp only; omega, by simp only; omega⟩))
  have h2 := h (x.1, x.2.1 + x.2.2 - 1) (hu _ (mem_ul.2 ⟨rfl, by simp only; omega, by simp only; omega⟩))
  simp only at h1 h2
  rw [possB_iff]
  omega
theorem U_range {l : List Lt} (hl : ∀ x ∈ l, possB x = true) : ∀ u ∈ U l, 0 ≤ u.1 ∧ 0 ≤ u.2 ∧ u.2 < 1099511627776 := fun u hu => by
  obtain ⟨x, hx, hu⟩ := mem_U.1 hu
  have h1 := possB_iff.1 (hl x hx)
  have h2 := mem_ul.1 hu
  omega
end Go.Proofs.YtmeplpiamkaniaaGreat
namespace Go.Proofs.YtmeplpiamkaniaaGreat
set_option linter.unusedVariables false
set_option linter.unusedSimpArgs false
open Go.RowKit
set_option maxHeartbeats 2000000 in
theorem spSlice_c (A : Option Addr) (n c : Nat) (l : List Lt) (a0 m0 : Int) (w : World) (h : LotsAt w A n c l) (hp : ∀ x ∈ l, possB x = true) (ha : 0 ≤ a0) (hm : 0 ≤ m0) (hs : a0 + m0 ≤ 4611686018427387904) (hn : n ≤ 100000) :
    Calls Tryz.prog 98 #[.slice A n c, .int .i64 a0, .int .i64 m0] w (RetL w (glue (cutU l a0 m0))) := by
  have hm63 := h.n63
  have HL := Lib.hid h.len
  have HP := Lib.hid hp
  have HU := Lib.hid (U_range hp)
  clear hp
  go_enter Tryz.func98, Tryz.ntmps98
  go_wp2_with fail
  go_loopw [1, 2, 7, 13] (fun t1 t2 t7 ti wr => ∃ (k n1 c1 : Nat) (A1 : Option Addr) (a m : Int) (us : List Un), k ≤ n ∧ ti = .int .i64 k ∧ t1 = .int .i64 a ∧ t2 = .int .i64 m ∧ t7 = .slice A1 n1 c1 ∧ OwnL wr w.heap.size A1 n1 c1 (glue us) ∧ n1 ≤ k ∧ E w wr ∧ 0 ≤ a ∧ 0 ≤ m ∧ a + m ≤ 4611686018427387904 ∧ Hid (us ++ cutU (l.drop k) a m = cutU l a0 m0)) (fun _ _ _ ti _ => n - (intOf ti).toNat)
  case atStart => exact ⟨0, 0, 0, none, a0, m0, [], Nat.zero_le _, rfl, rfl, rfl, rfl, OwnL.nil _ _, Nat.le_refl _, E.refl _, ha, hm, hs, show _ = _ by simp⟩
  case round =>
    clear ha hm hs
    obtain ⟨k, n1, c1, A1, a, m, us, hk, rfl, rfl, rfl, rfl, hO, hn1, hE, ha, hm, hs, hus⟩ := hrel
    by_cases hlt : k < n
    · by_cases hm0 : m = 0
      · have HF := Lib.hid (show glue us = glue (cutU l a0 m0) by
          rw [← hus.out, hm0, cut_zero _ _ (Int.le_refl _), List.append_nil])
        subst hm0
        obtain ⟨b, o, x, rfl, hb, hx, hwx, d0, d1, d2⟩ := (h.e hE).get hlt
        have hkI : (k : Int) < (n : Int) := by omega
        go_wp2_with fail
        go_ret
        exact RetL.mk_ HF.out.symm (hO.e ((E.refl _).alloc _)) (hE.alloc _)
      · have hd0 : (m == 0) = false := by simpa using hm0
        obtain ⟨b, o, x, rfl, hb, hx, hwx, d0, d1, d2⟩ := (h.e hE).get hlt
        have hkI : (k : Int) < (n : Int) := by omega
        have hpx := possB_iff.1 (HP.out x (List.mem_of_getElem? hx))
        have hdr : l.drop k = x :: l.drop (k + 1) := by
          have hkl : k < l.length := by rw [HL.out]; exact hlt
          rw [List.drop_eq_getElem_cons hkl]
          rw [List.getElem?_eq_getElem hkl] at hx
          injection hx with hx
          rw [hx]
        by_cases hax : x.2.2 ≤ a
        · have HN := Lib.hid (show us ++ cutU (l.drop (k + 1)) (a - x.2.2) m = cutU l a0 m0 by
            rw [← hus.out, hdr, cut_skip (by omega) hax])
          have hwr : IntKind.i64.wrap (a - x.2.2) = a - x.2.2 := by rw [IntKind.wrap_i64]; omega
          clear hx hdr hd0
          obtain ⟨f, p, q⟩ := x
          simp only at *
          go_wp2_with fail
          go_roundw
          case rel => exact ⟨k + 1, n1, c1, A1, a - q, m, us, by omega, by go_num, rfl, rfl, rfl, hO.e ((E.refl _).alloc _), by omega, hE.alloc _, by omega, hm, by omega, HN⟩
          case measure => simp [intOf]; omega
        · obtain ⟨cn, hcn⟩ : ∃ cn, min m (x.2.2 - a) = cn := ⟨_, rfl⟩
          have HCN := Lib.hid hcn
          have HIF := Lib.hid (show (if x.2.2 - a < m then x.2.2 - a else m) = cn by split <;> omega)
          have hcn1 : 1 ≤ cn ∧ cn ≤ m ∧ cn ≤ x.2.2 - a := by omega
          have HN := Lib.hid (show (us ++ ul (x.1, x.2.1 + a, cn)) ++ cutU (l.drop (k + 1)) 0 (m - cn) = cutU l a0 m0 by
            rw [← hus.out, hdr, cut_some ha (by omega) hm, hcn, List.append_assoc])
          have hgp : ∀ y ∈ glue us, possB y = true := glue_poss (fun u hu => HU.out u (by
            have : u ∈ cutU l a0 m0 := by rw [← hus.out]; exact List.mem_append_left _ hu
            exact List.mem_of_mem_drop (List.mem_of_mem_take this)))
          have hq : (x.1, x.2.1 + a, cn).2.2 ≠ 0 → possB (x.1, x.2.1 + a, cn) = true := fun _ => possB_iff.2 (by simp only; omega)
          have hw1 : WfL (x.1, x.2.1 + a, cn) := ⟨hwx.1, wf_of_i64 (by simp only; omega) (by simp only; omega), wf_of_i64 (by simp only; omega) (by simp only; omega)⟩
          have HADD := Lib.hid (show addL (glue us) (x.1, x.2.1 + a, cn) = glue (us ++ ul (x.1, x.2.1 + a, cn)) from add_glue (by simp only; omega))
          have HLen := Lib.hid (add_len (glue us) (x.1, x.2.1 + a, cn))
          have hOl := hO.1
          have hle := hE.le
          have HA := Lib.hid (fun W (hW : E wr W) => append_c (x.1, x.2.1 + a, cn) A1 n1 c1 w.heap.size (glue us) W (hO.e hW) hgp hq hw1 (by have := hW.le; omega) (by omega))
          have hwr1 : IntKind.i64.wrap (x.2.2 - a) = x.2.2 - a := by rw [IntKind.wrap_i64]; omega
          have hwr2 : IntKind.i64.wrap (x.2.1 + a) = x.2.1 + a := by rw [IntKind.wrap_i64]; omega
          have hwr3 : IntKind.i64.wrap (m - cn) = m - cn := by rw [IntKind.wrap_i64]; omega
          have hge : decide (x.2.2 ≤ a) = false := by simpa using hax
          have hE1 := (E.refl wr).alloc (.cells #[.int .i64 x.1, .int .i64 x.2.1, .int .i64 x.2.2] 30)
          clear hx hdr hcn hgp hq hw1
          unfold ltV at HA
          obtain ⟨f, p, q⟩ := x
          simp only at *
          go_upto_region 9 with fail
          first | rw [HCN.out] | rw [HIF.out]
          go_wp2_with (go_at_call 62; refine (HA.out _ hE1).mono ?_; rintro e w3 ⟨A3, n3, c3, rfl, hO3, hG3, hor3⟩)
          have hEw3 : E w w3 := (hE.trans hE1).grown hG3 (fun q hq => (hO.ltN q hq).1)
          have hn3 : n3 ≤ k + 1 := by have h1 := hO3.1; have h2 := HLen.out; omega
          rw [HADD.out] at hO3
          go_roundw
          case rel => exact ⟨k + 1, n3, c3, A3, 0, m - cn, _, by omega, by go_num, rfl, rfl, rfl, hO3, hn3, hEw3, by omega, by omega, by omega, HN⟩
          case measure => simp [intOf]; omega
    · have HF := Lib.hid (show glue us = glue (cutU l a0 m0) by
        have := hus.out
        rw [List.drop_eq_nil_of_le (by have := HL.out; omega)] at this
        rw [← this, cutU, U_nil]
        simp)
      go_wp2_with fail
      go_ret
      exact RetL.mk_ HF.out.symm hO hE
end Go.Proofs.YtmeplpiamkaniaaGreat
namespace Go.Proofs
set_option linter.unusedVariables false
set_option linter.unusedSimpArgs false
open Go.Shelf
end Go.Proofs
namespace Go.Proofs.YtmeplpiamkaniaaGreat
set_option linter.unusedVariables false
set_option linter.unusedSimpArgs false
open Go.RowKit
end Go.Proofs.YtmeplpiamkaniaaGreat
namespace Go.Proofs.YtmeplpiamkaniaaGreat
set_option linter.unusedVariables false
set_option linter.unusedSimpArgs false
open Go.RowKit
def divOk (t n d : Int) : Bool := okU t && (okL n && (okL d && decide (d ≠ 0)))
def divFit (t n d : Int) : Bool := decide (t * n / d ≤ 1099511627776)
def divQ (t n d : Int) : Int := if divOk t n d = true ∧ divFit t n d = true then t * n / d else 0
def divR (t n d : Int) : Int := if divOk t n d = true ∧ divFit t n d = true then t * n % d else 0
def divE (t n d : Int) : Int := if divOk t n d then (if divFit t n d then 0 else 5) else 1
def ceilN (t n d : Int) : Int := divQ t n d + (if 0 < divR t n d then 1 else 0)
def ceilQ (t n d : Int) : Int := if divE t n d = 0 ∧ ceilN t n d ≤ 1099511627776 then ceilN t n d else 0
end Go.Proofs.YtmeplpiamkaniaaGreat
namespace Go.Proofs.YtmeplpiamkaniaaGreat
set_option linter.unusedVariables false
set_option linter.unusedSimpArgs false
open Go.RowKit
def cmpI (x y : Int) : Int := if x < y then -1 else if y < x then 1 else 0
def orI (a b : Int) : Int := if a = 0 then b else a
set_option maxHeartbeats 400000 in
theorem cmpI64_c (x y : Int) (w : World) : Calls Tryz.prog 54 #[.int .i64 x, .int .i64 y] w fun e w' => e = .returned (.int .i64 (cmpI x y)) ∧ w = w' := by
  have n1 : (x != x) = false := by simp
  have n2 : (y != y) = false := by simp
  by_cases h1 : x < y
  · have HC := Lib.hid (show -1 = cmpI x y by simp [cmpI, h1])
    generalize cmpI x y = r at *
    go_enter Tryz.func54, Tryz.ntmps54
    go_wp2
    go_ret
    exact ⟨ret_int HC.out, rfl⟩
  · by_cases h2 : y < x
    · have HC := Lib.hid (show 1 = cmpI x y by simp [cmpI, h1, h2])
      generalize cmpI x y = r at *
      go_enter Tryz.func54, Tryz.ntmps54
      go_wp2
      go_ret
      exact ⟨ret_int HC.out, rfl⟩
    · have HC := Lib.hid (show 0 = cmpI x y by simp [cmpI, h1, h2])
      generalize cmpI x y = r at *
      go_enter Tryz.func54, Tryz.ntmps54
      go_wp2
      go_ret
      exact ⟨ret_int HC.out, rfl⟩
set_option maxHeartbeats 400000 in
theorem cmpOr_c (g : Nat) (a b : Int) (w : World) (h0 : w.cell? ⟨g, 0, none⟩ = some (.int .i64 a)) (h1 : w.cell? ⟨g, 1, none⟩ = some (.int .i64 b)) :
    Calls Tryz.prog 52 #[.slice (some ⟨g, 0, none⟩) 2 2] w fun e w' => e = .returned (.int .i64 (orI a b)) ∧ w = w' := by
  by_cases ha : a = 0
  · subst ha
    have hne : ((0 : Int) != 0) = false := by simp
    by_cases hb : b = 0
    · subst hb
      go_enter Tryz.func52, Tryz.ntmps52
      go_wp2
      refine wp_loop_rounds 3 ?_
      rw [rounds_succ]
      go_wp2
      rw [rounds_succ]
      go_wp2
      rw [rounds_succ]
      go_wp2
      go_ret
      exact ⟨rfl, rfl⟩
    · have hnb : (b != 0) = true := by simpa using hb
      have HR := Lib.hid (show b = orI 0 b by simp [orI])
      generalize orI 0 b = r at *
      go_enter Tryz.func52, Tryz.ntmps52
      go_wp2
      refine wp_loop_rounds 2 ?_
      rw [rounds_succ]
      go_wp2
      rw [rounds_succ]
      go_wp2
      go_ret
      exact ⟨ret_int HR.out, rfl⟩
  · have hna : (a != 0) = true := by simpa using ha
    have HR := Lib.hid (show a = orI a b by simp [orI, ha])
    generalize orI a b = r at *
    go_enter Tryz.func52, Tryz.ntmps52
    go_wp2
    refine wp_loop_rounds 1 ?_
    rw [rounds_succ]
    go_wp2
    go_ret
    exact ⟨ret_int HR.out, rfl⟩
end Go.Proofs.YtmeplpiamkaniaaGreat
namespace Go.Proofs
set_option linter.unusedVariables false
set_option linter.unusedSimpArgs false
open Go.Shelf
def Tryz.revL_ren : Go.Shelf.Ren := ⟨fun | 35 => 63 | n => n, fun | 22 => 41 | 23 => 30 | 3 => 3 | 4 => 4 | 0 => 0 | n => n, fun | n => n⟩
theorem Tryz.revL : Go.Proofs.SlLaysE0.n35 Tryz.prog Tryz.revL_ren := {
  mixed := by kernel_rfl
  f35 := ⟨Tryz.f63.name, by decide, Tryz.func63.trans (congrArg some (by kernel_rfl))⟩
  t0 := Tryz.underlying0
  a0 := Tryz.isAgg0
  z0 := Tryz.sizeOf0
  v0 := Tryz.zeroValue0
  t3 := Tryz.underlying3
  a3 := Tryz.isAgg3
  z3 := Tryz.sizeOf3
  v3 := Tryz.zeroValue3
  t4 := Tryz.underlying4
  a4 := Tryz.isAgg4
  z4 := Tryz.sizeOf4
  v4 := Tryz.zeroValue4
  t22 := Tryz.underlying41
  a22 := Tryz.isAgg41
  z22 := Tryz.sizeOf41
  v22 := Tryz.zeroValue41 }
end Go.Proofs
