/- Lemmas of the claim, joined: WQ WR WT FL. No condition. -/
import Derived.Test.YtgbamgijpgjmgaaBJ
import Derived.Test.YtgbamgijpgjmgaaBF
import Derived.Test.YtgbamgijpgjmgaaBB
import Derived.Test.YtgbamgijpgjmgaaBA
import Derived.Deep.Slices
import Derived.Deep.Fields
import Derived.ChangeSame
import Derived.ProofKit
/- The laws of the operations on sets of lots, in plain words. -/
namespace Go.Proofs.Ytgbamgijpgjmgaa

/-- s is the set of the units of which p says yes -/
def SetOf (s : List Lt) (p : Un → Prop) : Prop := ∃ us, Srt us ∧ s = glue us ∧ ∀ u, u ∈ us ↔ p u
theorem SetOf.eq {s t : List Lt} {p q : Un → Prop} (h : SetOf s p) (k : SetOf t q) (e : ∀ u, p u ↔ q u) : s = t := by
  obtain ⟨us, h1, rfl, h2⟩ := h
  obtain ⟨vs, k1, rfl, k2⟩ := k
  exact glue_srt_ext h1 k1 fun u => by rw [h2, k2, e]
theorem SetOf.mem {s : List Lt} {p : Un → Prop} (h : SetOf s p) (u : Un) : u ∈ U s ↔ p u := by
  obtain ⟨us, h1, rfl, h2⟩ := h
  rw [U_glue, h2]
theorem so_set {a : List Lt} (h : validB a = true) : SetOf (lset a) (fun u => u ∈ U a) := ⟨sortU (U a), srt_sortU _, by rw [lset, h]; rfl, fun _ => mem_sortU⟩
theorem so_union {a b : List Lt} (ha : validB a = true) (hb : validB b = true) : SetOf (lunion a b) (fun u => u ∈ U a ∨ u ∈ U b) := ⟨sortU (U (a ++ b)), srt_sortU _, by rw [lunion, ha, hb]; rfl, fun u => by rw [mem_sortU, U_app, List.mem_append]⟩
theorem so_minus {a b : List Lt} (ha : validB a = true) (hb : validB b = true) : SetOf (lminus a b) (fun u => u ∈ U a ∧ ¬ u ∈ U b) := ⟨outU b (U (setS a)), srt_outU (srt_setS a), by rw [lminus, ha, hb]; rfl, fun u => by rw [mem_outU, mem_setS]⟩
theorem so_meet {a b : List Lt} (ha : validB a = true) (hb : validB b = true) : SetOf (lmeet a b) (fun u => u ∈ U a ∧ u ∈ U b) := ⟨inU b (U (setS a)), srt_inU (srt_setS a), by rw [lmeet, ha, hb]; rfl, fun u => by rw [mem_inU, mem_setS]⟩
theorem alg1 {a b : List Lt} (h : Two a b) : lunion (lunion (lminus a b) (lminus b a)) (lmeet a b) = lunion a b := by
  have m1 := so_minus h.va h.vb
  have m2 := so_minus h.vb h.va
  have m3 := so_meet h.va h.vb
  have hu : validB (lunion (lminus a b) (lminus b a)) = true := by
    have := h.vminus
    have := h.swap.vminus
    obtain ⟨h1, h2, h3, h4⟩ := setP (lminus a b ++ lminus b a) (fun x hx => by
      rcases List.mem_append.1 hx with hx | hx
      · exact (validB_iff.1 h.vminus.1).2 x hx
      · exact (validB_iff.1 h.swap.vminus.1).2 x hx)
    rw [lunion, h.vminus.1, h.swap.vminus.1]
    refine validB_iff.2 ⟨?_, h3⟩
    rw [List.length_append] at h2
    show (setS _).length ≤ _
    omega
  refine (so_union hu h.vmeet.1).eq (so_union h.va h.vb) fun u => ?_
  rw [(so_union h.vminus.1 h.swap.vminus.1).mem, m1.mem, m2.mem, m3.mem]
  rcases Classical.em (u ∈ U a) with h1 | h1 <;> rcases Classical.em (u ∈ U b) with h2 | h2 <;> simp [h1, h2]
theorem alg2 {a b c : List Lt} (h : Two a b) (k : Two b c) : lminus (lminus a b) c = lminus a (lunion b c) := by
  refine (so_minus h.vminus.1 k.vb).eq (so_minus h.va k.vunion.1) fun u => ?_
  rw [(so_minus h.va h.vb).mem, (so_union k.va k.vb).mem]
  rcases Classical.em (u ∈ U a) with h1 | h1 <;> rcases Classical.em (u ∈ U b) with h2 | h2 <;> simp [h1, h2]
theorem alg3 {a b c : List Lt} (h : Two a b) (k : Two b c) (j : Two a c) : lmeet a (lunion b c) = lunion (lmeet a b) (lmeet a c) := by
  refine (so_meet h.va k.vunion.1).eq (so_union h.vmeet.1 j.vmeet.1) fun u => ?_
  rw [(so_meet h.va h.vb).mem, (so_meet j.va j.vb).mem, (so_union k.va k.vb).mem]
  rcases Classical.em (u ∈ U a) with h1 | h1 <;> rcases Classical.em (u ∈ U b) with h2 | h2 <;> simp [h1, h2]
theorem take_one_valid {a : List Lt} {i : Nat} {x : Lt} (h : validB a = true) (hx : a[i]? = some x) : validB [x] = true := validB_iff.2 ⟨by simp, fun y hy => by rw [List.mem_singleton] at hy; subst hy; exact (validB_iff.1 h).2 _ (List.mem_of_getElem? hx)⟩
/-- the units of a lot that a set has -/
theorem alg4_step {a b : List Lt} {i : Nat} {x : Lt} (h : Two a b) (hx : a[i]? = some x) : ((inU b (U (a.take i))).length : Int) + totalS (lmeet [x] b) = ((inU b (U (a.take (i + 1)))).length : Int) := by
  have hv := take_one_valid h.va hx
  have h2 : Two [x] b := ⟨hv, h.vb, by simp, h.lb⟩
  have e : a.take (i + 1) = a.take i ++ [x] := by rw [List.take_add_one, hx]; rfl
  have es : sortU (ul x) = ul x := sortU_id (srt_units x.1 x.2.1 x.2.2.toNat)
  rw [tot_valid h2.vmeet.1, h2.meet, U_glue, e, U_app, inU_app, List.length_append, U_setS, U_one, es]
  omega
theorem alg4 {a b : List Lt} (h : Two a b) {n : Nat} (hn : a.length ≤ n) : totalS (lwithout a b) + ((inU b (U (a.take n))).length : Int) = totalS a := by
  rw [tot_valid h.vwithout.1, tot_valid h.va, h.without, U_glue, List.take_of_length_le hn]
  have := len_in_out b (U a)
  omega
theorem alg5 {a b : List Lt} (h : Two a b) : lwithin (lwithout a b) a = true := by
  rw [lwithin, h.vwithout.1, h.va, Bool.true_and, Bool.true_and, List.all_eq_true]
  intro u hu
  rw [h.without, U_glue, mem_outU] at hu
  exact hasB_iff.2 hu.1
end Go.Proofs.Ytgbamgijpgjmgaa
/- What Take gives, in plain words: the units taken and left, put together. -/
namespace Go.Proofs.Ytgbamgijpgjmgaa

theorem pcs_perm {l : List Lt} : ∀ {ks : List Int}, ks.length = l.length → (∀ (i : Nat) (x : Lt) (k : Int), l[i]? = some x → ks[i]? = some k → 0 ≤ k ∧ k ≤ x.2.2) → (U (sel true (pcs l ks)) ++ U (sel false (pcs l ks))).Perm (U l) ∧ ((U (sel true (pcs l ks))).length : Int) = ks.sum := by
  induction l with
  | nil =>
    intro ks hl _
    obtain rfl := List.eq_nil_of_length_eq_zero hl
    exact ⟨List.Perm.refl _, rfl⟩
  | cons x l ih =>
    intro ks hl hk
    cases ks with
    | nil => simp at hl
    | cons k ks =>
      obtain ⟨i1, i2⟩ := ih (ks := ks) (by simpa using hl) (fun i y j hy hj => hk (i + 1) y j (by simpa using hy) (by simpa using hj))
      have h0 := hk 0 x k (by simp) (by simp)
      rw [pcs, sel_cons_t, sel_cons_f, U_cons, U_cons, U_cons]
      have hc : ul x = ul (x.1, x.2.1, k) ++ ul (x.1, x.2.1 + k, x.2.2 - k) := ul_cut (f := x.1) (a := x.2.1) (n := x.2.2) h0.1 h0.2
      refine ⟨?_, ?_⟩
      · rw [hc, List.perm_iff_count]
        intro u
        have := (List.perm_iff_count.1 i1) u
        simp only [List.count_append] at this ⊢
        omega
      · have := ul_len (x.1, x.2.1, k)
        simp only at this
        rw [List.length_append, List.sum_cons]
        omega
structure TakeF (s : List Lt) (a : Int) (r : List Lt × List Lt × Int) : Prop where
  e : r.2.2 = 0
  v1 : validB r.1 = true
  v2 : validB r.2.1 = true
  l1 : r.1.length ≤ s.length
  l2 : r.2.1.length ≤ s.length
  perm : (U r.1 ++ U r.2.1).Perm (U s)
  tot : ((U r.1).length : Int) = a
theorem totL_nums (l : List Lt) : totL l = (nums l).sum := rfl
theorem firstK_sum {n : Int} {l : List Lt} (h0 : 0 ≤ n) (hl : ∀ x ∈ l, 1 ≤ x.2.2) (ht : n ≤ totL l) : (firstK n l).sum = n := by
  have h1 := (pcs_perm (l := l) (ks := firstK n l) (firstK_len n l) (firstK_range h0 hl)).2
  have h2 := (pcs_first h0 hl).1
  have h3 := U_len (l := l) (fun x hx => by have := hl x hx; omega)
  rw [h2, List.length_take] at h1
  omega
theorem countK_sum {l : List Lt} {m : Int} {mixed : Bool} (hv : validB l = true) (h0 : 0 ≤ m) (h1 : m ≤ 1099511627776) (ht : m ≤ totL l) : (countK l m mixed).sum = m := by
  obtain ⟨v1, v2⟩ := validB_iff.1 hv
  unfold countK
  split
  · rename_i hh
    exact splitL_sum (split_pre v2 v1 hh.2 h1 ht)
  · exact firstK_sum h0 (pos_of v2) ht
theorem sel_len' (b : Bool) {l : List Lt} {ks : List Int} : (sel b (pcs l ks)).length ≤ l.length := by
  induction l generalizing ks with
  | nil => simp [pcs, sel]
  | cons x l ih =>
    cases ks with
    | nil => simp [pcs, sel]
    | cons k ks =>
      have := ih (ks := ks)
      rw [pcs]
      cases b
      · rw [sel_cons_f, List.length_cons, List.length_cons]; omega
      · rw [sel_cons_t, List.length_cons, List.length_cons]; omega
theorem take_facts {s : List Lt} {a : Int} {mixed : Bool} (hv : validB s = true) (h0 : 0 ≤ a) (h1 : a ≤ 1099511627776) (ht : a ≤ totL s) : TakeF s a (takeS s a mixed) := by
  obtain ⟨v1, v2⟩ := validB_iff.1 hv
  have hr := countK_range (mixed := mixed) hv h0 h1 ht
  have hl := countK_len (l := s) (m := a) (mixed := mixed)
  obtain ⟨p1, p2⟩ := pcs_perm hl hr
  have hsum := countK_sum (mixed := mixed) hv h0 h1 ht
  rw [takeS_yes hv h0 h1 ht]
  generalize countK s a mixed = ks at *
  have g : ∀ b, (U (putL [] (sel b (pcs s ks)))) = U (sel b (pcs s ks)) := fun b => by
    have := (putL_glued (s := []) trivial (pcs_nonneg b hr)).2
    rw [this, U_nil, List.nil_append]
  have hmem : ∀ b u, u ∈ U (sel b (pcs s ks)) → u ∈ U s := fun b u hu => p1.mem_iff.1 (by
    cases b
    · exact List.mem_append_right _ hu
    · exact List.mem_append_left _ hu)
  have hval : ∀ b, validB (putL [] (sel b (pcs s ks))) = true := fun b => by
    refine validB_iff.2 ⟨?_, ?_⟩
    · have e1 := putL_len (sel b (pcs s ks)) []
      have e2 := sel_len' b (l := s) (ks := ks)
      simp at e1
      omega
    · rw [putN_eq (pcs_nonneg b hr)]
      exact glue_poss' fun u hu => U_range' v2 u (hmem b u hu)
  have hle : ∀ b, (putL [] (sel b (pcs s ks))).length ≤ s.length := fun b => by
    have e1 := putL_len (sel b (pcs s ks)) []
    have e2 := sel_len' b (l := s) (ks := ks)
    simp at e1
    omega
  refine ⟨rfl, hval true, hval false, hle true, hle false, ?_, ?_⟩
  · show (U (putL [] (sel true (pcs s ks))) ++ U (putL [] (sel false (pcs s ks)))).Perm (U s)
    rw [g, g]; exact p1
  · show ((U (putL [] (sel true (pcs s ks)))).length : Int) = a
    rw [g, p2, hsum]
/-- of a set, what is taken and what is left have no unit in common, and are together the set -/
theorem TakeF.apart {s : List Lt} {a : Int} {r : List Lt × List Lt × Int} (h : TakeF s a r) (hn : (U s).Nodup) : lmeet r.1 r.2.1 = [] := by
  have hn2 := h.perm.nodup_iff.2 hn
  have h3 := (List.nodup_append.1 hn2).2.2
  have h4 : inU r.2.1 (U (setS r.1)) = [] := by
    unfold inU
    rw [List.filter_eq_nil_iff]
    intro u hu hb
    exact h3 u (mem_setS.1 hu) u (hasB_iff.1 hb) rfl
  rw [lmeet, h.v1, h.v2, h4]
  rfl
theorem TakeF.whole {s : List Lt} {a : Int} {r : List Lt × List Lt × Int} (h : TakeF s a r) (hc : Canon s) : lunion r.1 r.2.1 = s := by
  refine (so_union h.v1 h.v2).eq (⟨U s, hc.srt, glued_eq hc.glued rfl, fun u => Iff.rfl⟩ : SetOf s (fun u => u ∈ U s)) fun u => ?_
  rw [← h.perm.mem_iff, List.mem_append]
theorem TakeF.tots {s : List Lt} {a : Int} {r : List Lt × List Lt × Int} (h : TakeF s a r) (hv : validB s = true) : totalS r.1 = a ∧ totalS r.2.1 = totalS s - a := by
  have h1 := h.tot
  have h2 := h.perm.length_eq
  rw [tot_valid h.v1, tot_valid h.v2, tot_valid hv]
  rw [List.length_append] at h2
  omega
/-- Take from the oldest lots first -/
theorem takeS_first {s : List Lt} {a : Int} (hv : validB s = true) (h0 : 0 ≤ a) (h1 : a ≤ 1099511627776) (ht : a ≤ totL s) : takeS s a false = (glue ((U s).take a.toNat), glue ((U s).drop a.toNat), 0) := by
  rw [takeS_yes hv h0 h1 ht]
  have e : countK s a false = firstK a s := by unfold countK; simp
  obtain ⟨p1, p2⟩ := put_first h0 (pos_of (validB_iff.1 hv).2)
  rw [e, p1, p2]
/-- lots put behind one another -/
theorem puts_eq {l s : List Lt} (hs : validB s = true) (hl : ∀ x ∈ l, possB x = true) (hn : s.length + l.length ≤ 4096) : l.foldl putS s = putL s l ∧ validB (putL s l) = true := by
  induction l generalizing s with
  | nil => exact ⟨rfl, hs⟩
  | cons x l ih =>
    have hx := hl x List.mem_cons_self
    have e : putS s x = addL s x := by rw [putS, hs, hx]; rfl
    have hlen := add_len s x
    rw [List.length_cons] at hn
    have hv : validB (addL s x) = true := validB_iff.2 ⟨by omega, poss_add (validB_iff.1 hs).2 fun _ => hx⟩
    rw [List.foldl_cons, e, putL_cons]
    exact ih hv (fun y hy => hl y (List.mem_cons_of_mem _ hy)) (by omega)
theorem put_glue {us : List Un} {l : List Lt} (hl : ∀ x ∈ l, 0 ≤ x.2.2) : putL (glue us) l = glue (us ++ U l) := by rw [putL_eq (glue_glued us) hl, U_glue]
/-- taking in two steps -/
theorem two_steps (us : List Un) {a b : Nat} (h : b ≤ a) : us.take b ++ (us.drop b).take (a - b) = us.take a ∧ (us.drop b).drop (a - b) = us.drop a := by
  constructor
  · rw [List.take_drop, show b + (a - b) = a by omega]
    conv => lhs; lhs; rw [show b = min b a by omega, ← List.take_take]
    exact List.take_append_drop _ _
  · rw [List.drop_drop, show b + (a - b) = a by omega]
end Go.Proofs.Ytgbamgijpgjmgaa
/- Rows of slices of lots. -/
namespace Go.Proofs.Ytgbamgijpgjmgaa
open Go.RowKit Go.Shelf

/-- a row of slices of lots -/
def RowL (w : World) (B k : Nat) : Prop := ∀ i, i < k → ∃ A n c q, w.cell? ⟨B, i, none⟩ = some (.slice A n c) ∧ LotsAt w A n c q ∧ q.length ≤ 12
theorem RowL.e {w w' : World} {B k : Nat} (h : RowL w B k) (hB : B < w.heap.size) (hE : E w w') : RowL w' B k := fun i hi => by
  obtain ⟨A, n, c, q, h1, h2, h3⟩ := h i hi
  exact ⟨A, n, c, q, (hE.cell (p := ⟨B, i, none⟩) hB).trans h1, h2.e hE, h3⟩
theorem rowL2 {w : World} {A A' : Option Addr} {n c n' c' : Nat} {q q' : List Lt} (h1 : LotsAt w A n c q) (h2 : LotsAt w A' n' c' q') (l1 : q.length ≤ 12) (l2 : q'.length ≤ 12) : RowL (w.alloc (.cells #[.slice A n c, .slice A' n' c'] 22)) w.heap.size 2 := fun i hi => by
  have hb := heap_alloc_new w (.cells #[.slice A n c, .slice A' n' c'] 22)
  have hE := (E.refl w).alloc (.cells #[.slice A n c, .slice A' n' c'] 22)
  match i, hi with
  | 0, _ => exact ⟨A, n, c, q, cell_of_row _ _ 0 _ _ _ hb, h1.e hE, l1⟩
  | 1, _ => exact ⟨A', n', c', q', cell_of_row _ _ 1 _ _ _ hb, h2.e hE, l2⟩
theorem rowL3 {w : World} {A A' A'' : Option Addr} {n c n' c' n'' c'' : Nat} {q q' q'' : List Lt} (h1 : LotsAt w A n c q) (h2 : LotsAt w A' n' c' q') (h3 : LotsAt w A'' n'' c'' q'') (l1 : q.length ≤ 12) (l2 : q'.length ≤ 12) (l3 : q''.length ≤ 12) : RowL (w.alloc (.cells #[.slice A n c, .slice A' n' c', .slice A'' n'' c''] 22)) w.heap.size 3 := fun i hi => by
  have hb := heap_alloc_new w (.cells #[.slice A n c, .slice A' n' c', .slice A'' n'' c''] 22)
  have hE := (E.refl w).alloc (.cells #[.slice A n c, .slice A' n' c', .slice A'' n'' c''] 22)
  match i, hi with
  | 0, _ => exact ⟨A, n, c, q, cell_of_row _ _ 0 _ _ _ hb, h1.e hE, l1⟩
  | 1, _ => exact ⟨A', n', c', q', cell_of_row _ _ 1 _ _ _ hb, h2.e hE, l2⟩
  | 2, _ => exact ⟨A'', n'', c'', q'', cell_of_row _ _ 2 _ _ _ hb, h3.e hE, l3⟩
theorem few_len (l : List Lt) : (l.take 5).length ≤ 12 := by have : (l.take 5).length ≤ 5 := List.length_take_le _ _; omega
theorem tot_range' {l : List Lt} : 0 ≤ totalS l ∧ totalS l ≤ 4503599627370496 := by
  unfold totalS
  cases hv : validB l
  · simp
  · have h1 := totL_le (validB_iff.1 hv).2
    have h2 := (validB_iff.1 hv).1
    simp only [if_true]
    omega
end Go.Proofs.Ytgbamgijpgjmgaa
/- An argument that is a slice of lots, or a lot. -/
namespace Go.Proofs.Ytgbamgijpgjmgaa
open Go.ChangeShapes Go.WideShapes Go.Deep Go.RowKit

theorem lot_of_trod {H : Type} {enc : TypeId × Value → H} {P : Program} {w : World} {base : Nat} {spare : Nat → Bool} {held : Bool} {e ti : TypeId} {f1 f2 f3 : Field} {fuel : Nat} {cs : List Value} {x : DataW H × List MemPlace}
    (he : P.underlying e = some (.struct #[f1, f2, f3])) (hti : P.underlying ti = some (.int .i64)) (hone : (oneCellFields P #[f1, f2, f3] && (f1.type == ti && (f2.type == ti && f3.type == ti))) = true) (hC : P.cellsOf e = 3)
    (h : DataW.trod enc P w base spare held fuel e cs = some x) : ∃ y : Lt, WfL y ∧ cs = [.int .i64 y.1, .int .i64 y.2.1, .int .i64 y.2.2] := by
  simp only [Bool.and_eq_true, beq_iff_eq] at hone
  obtain ⟨hone, hf1, hf2, hf3⟩ := hone
  obtain ⟨ys, n', hn', hy, hlen, hyl, hf⟩ := DataW.trod_struct he h
  obtain ⟨o1, k1⟩ := hone_of hone 0 f1 rfl
  obtain ⟨o2, k2⟩ := hone_of hone 1 f2 rfl
  obtain ⟨o3, k3⟩ := hone_of hone 2 f3 rfl
  have g1 := hf 0 f1 rfl
  have g2 := hf 1 f2 rfl
  have g3 := hf 2 f3 rfl
  rw [o1, k1] at g1
  rw [o2, k2] at g2
  rw [o3, k3] at g3
  rw [hC] at hlen
  match cs, hlen with
  | [c1, c2, c3], _ =>
    simp only [List.drop_zero, List.take_succ_cons, List.take_zero, List.drop_succ_cons] at g1 g2 g3
    match ys, hyl with
    | [y1, y2, y3], _ =>
      simp only [List.getElem?_cons_zero, List.getElem?_cons_succ] at g1 g2 g3
      rw [hf1] at g1
      rw [hf2] at g2
      rw [hf3] at g3
      obtain ⟨u, eu, _, wu⟩ := DataW.trod_int hti g1
      obtain ⟨v, ev, _, wv⟩ := DataW.trod_int hti g2
      obtain ⟨z, ez, _, wz⟩ := DataW.trod_int hti g3
      simp at eu ev ez
      subst eu ev ez
      exact ⟨(u, v, z), ⟨wu, wv, wz⟩, rfl⟩
theorem lots_of_trod {H : Type} {enc : TypeId × Value → H} {P : Program} {w : World} {base : Nat} {spare : Nat → Bool} {held : Bool} {t e ti : TypeId} {f1 f2 f3 : Field} {fuel : Nat} {A : Option Addr} {len cap : Nat} {x : DataW H × List MemPlace}
    (ht : P.underlying t = some (.slice e)) (he : P.underlying e = some (.struct #[f1, f2, f3])) (hti : P.underlying ti = some (.int .i64)) (hone : (oneCellFields P #[f1, f2, f3] && (f1.type == ti && (f2.type == ti && f3.type == ti))) = true) (hC : P.cellsOf e = 3)
    (h : DataW.trod enc P w base spare held fuel t [.slice A len cap] = some x) : ∃ l, LotsAt w A len cap l := by
  rcases open_slice ht h with ⟨hcs, _⟩ | ⟨a, len', cap', m, n, D, Pl, hcs, hb, hl, hm, hmm, hx, hi⟩
  · simp at hcs
    obtain ⟨rfl, rfl, rfl⟩ := hcs
    exact ⟨[], ⟨rfl, Nat.le_refl _, Nat.zero_le _, by simp, fun h0 => absurd h0 (by omega)⟩⟩
  · simp at hcs
    obtain ⟨rfl, rfl, rfl⟩ := hcs
    have hlm : len ≤ m := by rw [hmm]; split <;> omega
    have key : ∀ i, i < len → ∃ y : Lt, WfL y ∧ w.cell? (a.add (i * 3)) = some (.int .i64 y.1) ∧ w.cell? (a.add (i * 3 + 1)) = some (.int .i64 y.2.1) ∧ w.cell? (a.add (i * 3 + 2)) = some (.int .i64 y.2.2) := by
      intro i hil
      obtain ⟨cs', hc, ht'⟩ := hi i (by omega)
      rw [hC] at hc
      obtain ⟨_, hcl, hat⟩ := World.cells?_some hc
      obtain ⟨y, hw, rfl⟩ := lot_of_trod he hti hone hC ht'
      have h1 := hat 0 (by omega)
      have h2 := hat 1 (by omega)
      have h3 := hat 2 (by omega)
      simp only [List.getElem?_cons_zero, List.getElem?_cons_succ] at h1 h2 h3
      rw [Go.Deep.add_add] at h1 h2 h3
      exact ⟨y, hw, by simpa using h1, by simpa using h2, by simpa using h3⟩
    refine ⟨(List.range len).map fun i => if h : i < len then (key i h).choose else (0, 0, 0), ?_⟩
    refine ⟨by simp, hl, hm, ?_, ?_⟩
    · intro y hy
      simp only [List.mem_map, List.mem_range] at hy
      obtain ⟨i, hi', rfl⟩ := hy
      rw [dif_pos hi']
      exact (key i hi').choose_spec.1
    · intro h0
      obtain ⟨b, off, spot⟩ := a
      have hc0 := (key 0 h0).choose_spec.2.1
      have hspot : spot = none := by simpa [Addr.add] using World.cell?_spot hc0
      subst hspot
      have hlt : b < w.heap.size := by simpa [Addr.add] using World.block_lt_of_cell? w _ hc0
      refine ⟨b, off, rfl, hlt, fun i y hi' => ?_⟩
      have hil : i < len := by have := (List.getElem?_eq_some_iff.1 hi').1; simpa using this
      have hs := (key i hil).choose_spec
      rw [List.getElem?_map, List.getElem?_range hil] at hi'
      simp only [Option.map_some, Option.some.injEq] at hi'
      rw [dif_pos hil] at hi'
      subst hi'
      exact ⟨(congrArg w.cell? (add_plain _ _ _).symm).trans hs.2.1, (congrArg w.cell? (by rw [add_plain, Nat.add_assoc])).trans hs.2.2.1, (congrArg w.cell? (by rw [add_plain, Nat.add_assoc])).trans hs.2.2.2⟩
end Go.Proofs.Ytgbamgijpgjmgaa
