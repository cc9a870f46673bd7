/- The brute force over all choices, and the greatest value by sublists (plain). -/
import Derived.Test.YtpbkfpkgbfifaaaCP
namespace Go.Proofs.Ytpbkfpkgbfifaaa

/-- the indices i, i+1, .. of k bits -/
def chF (i : Nat) : Nat → Nat → List Nat
  | 0, _ => []
  | k + 1, b => if b % 2 = 1 then i :: chF (i + 1) k (b / 2) else chF (i + 1) k (b / 2)
termination_by structural k => k
theorem chF_range : ∀ (k i b : Nat), (chF i k b).Pairwise (· < ·) ∧ ∀ j ∈ chF i k b, i ≤ j ∧ j < i + k
  | 0, _, _ => by simp [chF]
  | k + 1, i, b => by
    obtain ⟨h1, h2⟩ := chF_range k (i + 1) (b / 2)
    unfold chF
    split
    · refine ⟨List.pairwise_cons.2 ⟨fun j hj => by have := h2 j hj; omega, h1⟩, fun j hj => ?_⟩
      rcases List.mem_cons.1 hj with h | h
      · omega
      · have := h2 j h; omega
    · exact ⟨h1, fun j hj => by have := h2 j hj; omega⟩
theorem chF_all : ∀ (k i : Nat) (c : List Nat), c.Pairwise (· < ·) → (∀ j ∈ c, i ≤ j ∧ j < i + k) → ∃ b, b < 2 ^ k ∧ chF i k b = c
  | 0, i, c, _, h => by
    cases c with
    | nil => exact ⟨0, by simp, rfl⟩
    | cons x c => have := h x List.mem_cons_self; omega
  | k + 1, i, c, hp, h => by
    cases c with
    | nil =>
      obtain ⟨b, hb, e⟩ := chF_all k (i + 1) [] hp (by simp)
      exact ⟨2 * b, by rw [Nat.pow_succ]; omega, by unfold chF; rw [if_neg (by omega), show 2 * b / 2 = b by omega, e]⟩
    | cons x c =>
      have hx := h x List.mem_cons_self
      rw [List.pairwise_cons] at hp
      by_cases e : x = i
      · obtain ⟨b, hb, e'⟩ := chF_all k (i + 1) c hp.2 (fun j hj => by have := hp.1 j hj; have := h j (List.mem_cons_of_mem _ hj); omega)
        exact ⟨2 * b + 1, by rw [Nat.pow_succ]; omega, by unfold chF; rw [if_pos (by omega), show (2 * b + 1) / 2 = b by omega, e', e]⟩
      · obtain ⟨b, hb, e'⟩ := chF_all k (i + 1) (x :: c) (List.pairwise_cons.2 hp) (fun j hj => by
          have := h j hj
          rcases List.mem_cons.1 hj with h' | h'
          · omega
          · have := hp.1 j h'; omega)
        exact ⟨2 * b, by rw [Nat.pow_succ]; omega, by unfold chF; rw [if_neg (by omega), show 2 * b / 2 = b by omega, e']⟩

/-- the model's step -/
def rstep (l : List Bd) (ok : List Nat → Bool) (st : List Nat × Int) (c : List Nat) : List Nat × Int :=
  if ok c && (decide (st.2 < val l c) || (val l c == st.2 && lessN c st.1)) then (c, val l c) else st
theorem rstep_opt {l : List Bd} {ok : List Nat → Bool} : ∀ (cs : List (List Nat)) (S : List Nat → Prop) (st : List Nat × Int), Opt S l st → Opt (fun c => S c ∨ (ok c = true ∧ c ∈ cs)) l (cs.foldl (rstep l ok) st)
  | [], S, st, h => h.congr fun c => by simp
  | x :: cs, S, st, h => by
    rw [List.foldl_cons]
    have h1 : Opt (fun c => S c ∨ (ok c = true ∧ c = x)) l (rstep l ok st x) := by
      obtain ⟨a, b, c⟩ := h
      unfold rstep
      split
      · rename_i hc
        simp only [Bool.and_eq_true, Bool.or_eq_true, decide_eq_true_eq, beq_iff_eq] at hc
        refine ⟨.inr ⟨hc.1, rfl⟩, rfl, fun c' hc' => ?_⟩
        simp only
        rcases hc' with hc' | hc'
        · have h3 := c c' hc'
          rcases hc.2 with h | ⟨h, h'⟩
          · rcases h3 with h3 | h3 <;> exact .inl (by omega)
          · rcases h3 with h3 | ⟨h3, h4⟩
            · exact .inl (by omega)
            · refine .inr ⟨by omega, .inr ?_⟩
              rcases h4 with h4 | h4
              · rw [← h4]; exact h'
              · exact lessN_trans _ _ _ h' h4
        · exact .inr ⟨by rw [hc'.2], .inl hc'.2.symm⟩
      · rename_i hc
        simp only [Bool.and_eq_true, Bool.or_eq_true, decide_eq_true_eq, beq_iff_eq] at hc
        refine ⟨.inl a, b, fun c' hc' => ?_⟩
        rcases hc' with hc' | ⟨h1, h2⟩
        · exact c c' hc'
        · subst h2
          by_cases e : val l c' < st.2
          · exact .inl e
          · have h4 : ¬ st.2 < val l c' := fun h => hc ⟨h1, .inl h⟩
            refine .inr ⟨by omega, ?_⟩
            rcases lessN_total st.1 c' with h | h | h
            · exact .inl h
            · exact .inr h
            · exact absurd ⟨h1, .inr ⟨by omega, h⟩⟩ hc
    refine (rstep_opt cs _ _ h1).congr fun c => ?_
    rw [List.mem_cons]
    constructor
    · rintro ((h | ⟨h, h'⟩) | ⟨h, h'⟩)
      · exact .inl h
      · exact .inr ⟨h, .inl h'⟩
      · exact .inr ⟨h, .inr h'⟩
    · rintro (h | ⟨h, h' | h'⟩)
      · exact .inl (.inl h)
      · exact .inl (.inr ⟨h, h'⟩)
      · exact .inr ⟨h, h'⟩

/-- no two bids of a choice in conflict, as the model asks it -/
def apartB (l : List Bd) : List Nat → Bool
  | [] => true
  | i :: c => c.all (fun j => !confl (l.getD i bd0) (l.getD j bd0)) && apartB l c
theorem apartB_iff (l : List Bd) (c : List Nat) : apartB l c = true ↔ c.Pairwise fun i j => confl (l.getD i bd0) (l.getD j bd0) = false := by
  induction c with
  | nil => simp [apartB]
  | cons i c ih => simp only [apartB, Bool.and_eq_true, List.all_eq_true, Bool.not_eq_true', List.pairwise_cons, ih]
def okB (l : List Bd) (wo : Int) (c : List Nat) : Bool := apartB l c && c.all fun i => (l.getD i bd0).1 != wo
def refBestS (l : List Bd) (wo : Int) : List Nat × Int := ((List.range (2 ^ l.length)).map (chF 0 l.length)).foldl (rstep l (okB l wo)) ([], 0)
theorem refBest_opt (l : List Bd) (wo : Int) : Opt (fun c => feas l c ∧ ∀ i ∈ c, (l.getD i bd0).1 ≠ wo) l (refBestS l wo) := by
  refine (rstep_opt _ (fun c => c = []) ([], 0) ⟨rfl, rfl, fun c hc => .inr ⟨by rw [hc]; rfl, .inl hc.symm⟩⟩).congr fun c => ?_
  have hk : okB l wo c = true ↔ (c.Pairwise fun i j => confl (l.getD i bd0) (l.getD j bd0) = false) ∧ ∀ i ∈ c, (l.getD i bd0).1 ≠ wo := by
    simp only [okB, Bool.and_eq_true, apartB_iff, List.all_eq_true, bne_iff_ne]
  rw [hk]
  constructor
  · rintro (h | ⟨h, h'⟩)
    · subst h; exact ⟨feas_nil l, by simp⟩
    · obtain ⟨b, _, rfl⟩ := List.mem_map.1 h'
      have := chF_range l.length 0 b
      exact ⟨⟨this.1, fun i hi => by have := this.2 i hi; omega, h.1⟩, h.2⟩
  · rintro ⟨⟨h1, h2, h3⟩, h4⟩
    obtain ⟨b, hb, e⟩ := chF_all l.length 0 c h1 (fun j hj => ⟨Nat.zero_le _, by have := h2 j hj; omega⟩)
    exact .inr ⟨⟨h3, h4⟩, List.mem_map.2 ⟨b, List.mem_range.2 hb, e⟩⟩
theorem best_ref {l : List Bd} (hp : ∀ i, 0 ≤ pr l i) {wo : Int} (hw : ∀ x ∈ l, x.1 ≠ wo) : bestS l = refBestS l wo := by
  refine (bestS_opt hp).unique ((refBest_opt l wo).congr fun c => ⟨fun h => h.1, fun h => ⟨h, fun i hi => ?_⟩⟩)
  have h1 := h.2.1 i hi
  rw [List.getD_eq_getElem?_getD, List.getElem?_eq_getElem h1]
  exact hw _ (List.getElem_mem h1)

/-! the greatest value, by sublists -/
def sumP : List Bd → Int
  | [] => 0
  | x :: s => x.2.1 + sumP s
def feasS (s : List Bd) : Prop := s.Pairwise fun x y => confl x y = false
def IsMax (l : List Bd) (v : Int) : Prop := (∃ s, s.Sublist l ∧ feasS s ∧ sumP s = v) ∧ ∀ s, s.Sublist l → feasS s → sumP s ≤ v
theorem IsMax.unique {l : List Bd} {v u : Int} (h : IsMax l v) (k : IsMax l u) : v = u := by
  obtain ⟨⟨s, a, b, c⟩, h2⟩ := h
  obtain ⟨⟨t, a', b', c'⟩, k2⟩ := k
  have := h2 t a' b'
  have := k2 s a b
  omega
theorem val_sum (l : List Bd) (c : List Nat) : val l c = sumP (c.map fun i => l.getD i bd0) := by
  induction c with
  | nil => rfl
  | cons i c ih => simp only [val, List.map_cons, sumP, ih]; rfl
theorem pick_sub {l : List Bd} {c : List Nat} (h : c.Pairwise (· < ·)) (hr : ∀ i ∈ c, i < l.length) : (c.map fun i => l.getD i bd0).Sublist l := by
  have e : (c.map fun i => l.getD i bd0) = (c.pmap (fun i hi => (⟨i, hi⟩ : Fin l.length)) hr).map (fun i => l[i]) := by
    rw [List.map_pmap]
    clear h
    induction c with
    | nil => rfl
    | cons x c ih => 
      have hx := hr x List.mem_cons_self
      simp only [List.map_cons, List.pmap_cons]
      rw [ih (fun i hi => hr i (List.mem_cons_of_mem _ hi))]
      congr 1
      rw [List.getD_eq_getElem?_getD, List.getElem?_eq_getElem hx]; rfl
  rw [e]
  apply List.map_getElem_sublist
  rw [List.pairwise_pmap]
  exact h.imp_of_mem fun _ _ h => fun _ _ => h
theorem sub_pick {l s : List Bd} (h : s.Sublist l) : ∃ c : List Nat, c.Pairwise (· < ·) ∧ (∀ i ∈ c, i < l.length) ∧ (c.map fun i => l.getD i bd0) = s := by
  obtain ⟨is, e, hp⟩ := List.sublist_eq_map_getElem h
  refine ⟨is.map (·.val), List.pairwise_map.2 (hp.imp fun h => h), fun i hi => ?_, ?_⟩
  · obtain ⟨j, _, rfl⟩ := List.mem_map.1 hi; exact j.isLt
  · rw [e, List.map_map]
    apply List.map_congr_left
    intro i _
    simp [List.getD_eq_getElem?_getD]
theorem feas_map {l : List Bd} {c : List Nat} : (c.Pairwise fun i j => confl (l.getD i bd0) (l.getD j bd0) = false) ↔ feasS (c.map fun i => l.getD i bd0) := by
  rw [feasS, List.pairwise_map]
theorem Opt.max {l : List Bd} {st : List Nat × Int} (h : Opt (feas l) l st) : IsMax l st.2 := by
  obtain ⟨h1, h2, h3⟩ := h
  refine ⟨⟨_, pick_sub h1.1 h1.2.1, feas_map.1 h1.2.2, by rw [h2, val_sum]⟩, fun s hs hf => ?_⟩
  obtain ⟨c, a, b, e⟩ := sub_pick hs
  subst e
  rw [← val_sum]
  rcases h3 c ⟨a, b, feas_map.2 hf⟩ with h | h <;> omega
theorem Opt.maxW {l : List Bd} {st : List Nat × Int} {wo : Int} (h : Opt (fun c => feas l c ∧ ∀ i ∈ c, (l.getD i bd0).1 ≠ wo) l st) : IsMax (l.filter fun x => x.1 != wo) st.2 := by
  obtain ⟨⟨h1, h1'⟩, h2, h3⟩ := h
  refine ⟨⟨_, ?_, feas_map.1 h1.2.2, by rw [h2, val_sum]⟩, fun s hs hf => ?_⟩
  · have := (pick_sub h1.1 h1.2.1).filter fun x => x.1 != wo
    rw [List.filter_eq_self.2] at this
    · exact this
    · intro x hx
      obtain ⟨i, hi, rfl⟩ := List.mem_map.1 hx
      simpa using h1' i hi
  · obtain ⟨c, a, b, e⟩ := sub_pick (hs.trans List.filter_sublist)
    have hw : ∀ i ∈ c, (l.getD i bd0).1 ≠ wo := fun i hi => by
      have : l.getD i bd0 ∈ s := by rw [← e]; exact List.mem_map.2 ⟨i, hi, rfl⟩
      have := (List.mem_filter.1 (hs.subset this)).2
      simpa using this
    subst e
    rw [← val_sum]
    rcases h3 c ⟨⟨a, b, feas_map.2 hf⟩, hw⟩ with h | h <;> omega
theorem pr_nn {l : List Bd} (hp : ∀ x ∈ l, 0 ≤ x.2.1) (i : Nat) : 0 ≤ pr l i := by
  unfold pr
  rw [List.getD_eq_getElem?_getD]
  cases e : l[i]? with
  | none => exact Int.le_refl 0
  | some x => exact hp x (List.mem_of_getElem? e)
/-- the greatest value without a bidder -/
theorem without_ref {l : List Bd} (hp : ∀ x ∈ l, 0 ≤ x.2.1) (wo : Int) : (bestS (l.filter fun x => x.1 != wo)).2 = (refBestS l wo).2 :=
  (bestS_opt (pr_nn fun x hx => hp x (List.mem_filter.1 hx).1)).max.unique (refBest_opt l wo).maxW
theorem bestS_max {l : List Bd} (hp : ∀ x ∈ l, 0 ≤ x.2.1) : IsMax l (bestS l).2 := (bestS_opt (pr_nn hp)).max
end Go.Proofs.Ytpbkfpkgbfifaaa
