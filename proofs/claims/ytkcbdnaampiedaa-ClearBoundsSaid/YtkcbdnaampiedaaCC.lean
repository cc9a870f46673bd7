/- No feasible choice is worth more than the bound (plain). -/
import Derived.Test.YtkcbdnaampiedaaCB
namespace Go.Proofs.Ytkcbdnaampiedaa

theorem sum_nonneg {f : Int → Int} (hf : ∀ b, 0 ≤ f b) : ∀ bs : List Int, 0 ≤ (bs.map f).sum
  | [] => by simp
  | b :: bs => by have := sum_nonneg hf bs; have := hf b; simp only [List.map_cons, List.sum_cons]; omega
theorem sum_erase {f : Int → Int} {x : Int} : ∀ {cs : List Int}, x ∈ cs → (cs.map f).sum = f x + ((cs.erase x).map f).sum
  | [], h => by simp at h
  | c :: cs, h => by
    by_cases e : c = x
    · subst e; simp
    · have hx : x ∈ cs := by rcases List.mem_cons.1 h with h | h; exact absurd h.symm e; exact h
      rw [List.erase_cons_tail (by simpa using e)]
      simp only [List.map_cons, List.sum_cons, sum_erase (f := f) hx]
      omega
theorem sub_sum {f : Int → Int} (hf : ∀ b, 0 ≤ f b) : ∀ (bs cs : List Int), bs.Nodup → (∀ b ∈ bs, b ∈ cs) → (bs.map f).sum ≤ (cs.map f).sum
  | [], cs, _, _ => by simpa using sum_nonneg hf cs
  | b :: bs, cs, hn, hs => by
    rw [List.nodup_cons] at hn
    have hb := hs b List.mem_cons_self
    rw [sum_erase (f := f) hb]
    have := sub_sum hf bs (cs.erase b) hn.2 fun x hx => by
      rw [List.mem_erase_of_ne (by intro e; subst e; exact hn.1 hx)]
      exact hs x (List.mem_cons_of_mem _ hx)
    simp only [List.map_cons, List.sum_cons]
    omega
theorem sur_nn (ps : List Int) (b : Int) : ∀ (l : List Bd) (a : Int), 0 ≤ a → a ≤ l.foldl (sstep ps b) a ∧ ∀ x ∈ l, x.1 = b → ownS ps x ≤ l.foldl (sstep ps b) a
  | [], a, _ => ⟨Int.le_refl _, by simp⟩
  | x :: l, a, ha => by
    rw [List.foldl_cons]
    have h1 : a ≤ sstep ps b a x := by unfold sstep; split <;> omega
    obtain ⟨h2, h3⟩ := sur_nn ps b l (sstep ps b a x) (by omega)
    refine ⟨by omega, fun y hy e => ?_⟩
    rcases List.mem_cons.1 hy with rfl | hy
    · have : ownS ps y ≤ sstep ps b a y := by unfold sstep; split <;> omega
      omega
    · exact h3 y hy e
theorem lsum_map (ps : List Int) : ∀ ls : List Int, lsum ps ls = (ls.map fun t => ps.getD t.toNat 0).sum
  | [] => rfl
  | t :: r => by simp only [lsum, lsum_map ps r, List.map_cons, List.sum_cons]
theorem lotsOk_pw : ∀ {n last : Int} {ls : List Int}, lotsOk n last ls = true → ls.Pairwise (· < ·)
  | _, _, [], _ => List.Pairwise.nil
  | n, last, x :: r, h => by
    simp only [lotsOk, Bool.and_eq_true, decide_eq_true_eq] at h
    exact List.pairwise_cons.2 ⟨fun t ht => (lotsOk_mem h.2 t ht).1, lotsOk_pw h.2⟩
theorem range_sum (ps : List Int) : (((List.range ps.length).map fun k : Nat => (k : Int)).map fun t => ps.getD t.toNat 0).sum = ps.sum := by
  rw [List.map_map]
  congr 1
  apply List.ext_getElem
  · simp
  · intro i h1 h2
    simp [List.getD_eq_getElem?_getD, List.getElem?_eq_getElem h2]
def cIdx (l : List Bd) (c : List Nat) : List Bd := c.map fun i => l.getD i bd0
theorem confl_no {x y : Bd} (h : confl x y = false) : x.1 ≠ y.1 ∧ ∀ t ∈ x.2.2, t ∉ y.2.2 := by
  unfold confl at h
  rw [Bool.or_eq_false_iff] at h
  refine ⟨by simpa using h.1, fun t ht h2 => ?_⟩
  have := h.2
  rw [List.any_eq_false] at this
  exact this t ht (by simpa using h2)
theorem bound_sums {ps : List Int} {K : Int} : ∀ s : List Bd, (∀ x ∈ s, lotsOk K (-1) x.2.2 = true) → feasS s →
    sumP s = (s.map (ownS ps)).sum + lsum ps (s.flatMap fun x => x.2.2) ∧ (s.map Prod.fst).Nodup ∧ (s.flatMap fun x => x.2.2).Nodup
  | [], _, _ => by simp [sumP, lsum]
  | x :: s, hl, hf => by
    rw [feasS, List.pairwise_cons] at hf
    obtain ⟨h1, h2, h3⟩  := bound_sums (ps := ps) s (fun y hy => hl y (List.mem_cons_of_mem _ hy)) hf.2
    refine ⟨?_, ?_, ?_⟩
    · simp only [sumP, h1, List.map_cons, List.sum_cons, List.flatMap_cons, lsum_app, ownS]; omega
    · rw [List.map_cons, List.nodup_cons]
      refine ⟨fun hm => ?_, h2⟩
      obtain ⟨y, hy, e⟩ := List.mem_map.1 hm
      exact (confl_no (hf.1 y hy)).1 e.symm
    · rw [List.flatMap_cons, List.nodup_append]
      refine ⟨(lotsOk_pw (hl x List.mem_cons_self)).imp (fun h => by omega), h3, fun a ha b hb e => ?_⟩
      subst e
      obtain ⟨y, hy, hyt⟩ := List.mem_flatMap.1 hb
      exact (confl_no (hf.1 y hy)).2 a ha hyt
theorem bound_ge {ps : List Int} {K : Int} {l : List Bd} (hp : ∀ x ∈ ps, 0 ≤ x ∧ x ≤ 1099511627776) (hK : (ps.length : Int) = K) (hl : ∀ x ∈ l, lotsOk K (-1) x.2.2 = true) {c : List Nat} (hc : feas l c) : val l c ≤ boundS ps l := by
  have hsub := pick_sub hc.1 hc.2.1
  have hmem : ∀ x ∈ cIdx l c, x ∈ l := fun x hx => hsub.subset hx
  obtain ⟨h1, h2, h3⟩ := bound_sums (ps := ps) (K := K) (cIdx l c) (fun x hx => hl x (hmem x hx)) (feas_map.1 hc.2.2)
  rw [val_sum, boundS_eq]
  show sumP (cIdx l c) ≤ _
  rw [h1]
  have a1 : ((cIdx l c).map (ownS ps)).sum ≤ (((cIdx l c).map Prod.fst).map (sur ps l)).sum := by
    generalize cIdx l c = s at *
    clear h1 h2 h3 hsub
    induction s with
    | nil => simp
    | cons x s ih =>
      have := ih fun y hy => hmem y (List.mem_cons_of_mem _ hy)
      have hx := (sur_nn ps x.1 l 0 (Int.le_refl _)).2 x (hmem x List.mem_cons_self) rfl
      simp only [List.map_cons, List.sum_cons]
      unfold sur at *
      omega
  have a2 := sub_sum (f := sur ps l) (fun b => (sur_nn ps b l 0 (Int.le_refl _)).1) _ (firsts l) h2 fun b hb => by
    obtain ⟨x, hx, e⟩ := List.mem_map.1 hb
    exact (firsts_mem l b).2 ⟨x, hmem x hx, e⟩
  have a3 := sub_sum (f := fun t => ps.getD t.toNat 0) (fun t => by
    show 0 ≤ ps.getD t.toNat 0
    rw [List.getD_eq_getElem?_getD]
    cases e : ps[t.toNat]? with
    | none => simp
    | some y => exact (hp y (List.mem_of_getElem? e)).1) _ ((List.range ps.length).map fun k : Nat => (k : Int)) h3 fun t ht => by
      obtain ⟨x, hx, hxt⟩ := List.mem_flatMap.1 ht
      have := lotsOk_mem (hl x (hmem x hx)) t hxt
      exact List.mem_map.2 ⟨t.toNat, List.mem_range.2 (by omega), by omega⟩
  rw [range_sum, ← lsum_map] at a3
  unfold surs
  omega
end Go.Proofs.Ytkcbdnaampiedaa
