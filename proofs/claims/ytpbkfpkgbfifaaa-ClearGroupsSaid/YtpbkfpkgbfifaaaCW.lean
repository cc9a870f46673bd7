/- A bid that is left out can be exchanged (plain). -/
import Derived.Test.YtpbkfpkgbfifaaaCV
import Derived.Test.YtpbkfpkgbfifaaaCR
namespace Go.Proofs.Ytpbkfpkgbfifaaa

theorem useB_iff {l : List Bd} {i j : Nat} : useB l i j = true ↔ (l.getD i bd0).1 = (l.getD j bd0).1 ∧ ((l.getD j bd0).2.1 < (l.getD i bd0).2.1 ∨ ((l.getD i bd0).2.1 = (l.getD j bd0).2.1 ∧ i < j)) ∧ ∀ t ∈ (l.getD i bd0).2.2, t ∈ (l.getD j bd0).2.2 := by
  unfold useB
  simp only [Bool.and_eq_true, Bool.or_eq_true, beq_iff_eq, decide_eq_true_eq, List.all_eq_true, List.contains_iff_mem, and_assoc]
theorem useB_trans {l : List Bd} {i j k : Nat} (h : useB l i j = true) (h' : useB l j k = true) : useB l i k = true := by
  rw [useB_iff] at h h' ⊢
  refine ⟨h.1.trans h'.1, ?_, fun t ht => h'.2.2 t (h.2.2 t ht)⟩
  rcases h.2.1 with a | ⟨a, b⟩ <;> rcases h'.2.1 with c | ⟨c, d⟩ <;> omega
theorem useB_irr (l : List Bd) (i : Nat) : useB l i i = false := by
  cases h : useB l i i
  · rfl
  · rw [useB_iff] at h
    rcases h.2.1 with a | ⟨a, b⟩ <;> omega
/-- what makes a bid useless, and is itself kept -/
theorem keeper {l : List Bd} {j : Nat} (hk : keepB l j = false) : ∃ k, k < l.length ∧ keepB l k = true ∧ useB l k j = true := by
  have main : ∀ (m : Nat) (j : Nat), (((List.range l.length).filter fun i => useB l i j)).length ≤ m → keepB l j = false → ∃ k, k < l.length ∧ keepB l k = true ∧ useB l k j = true := by
    intro m
    induction m with
    | zero =>
      intro j hm hk
      unfold keepB at hk
      simp only [Bool.not_eq_false', List.any_eq_true, List.mem_range, Bool.and_eq_true] at hk
      obtain ⟨i, hi, _, hu⟩ := hk
      have : i ∈ (List.range l.length).filter fun i => useB l i j := List.mem_filter.2 ⟨List.mem_range.2 hi, hu⟩
      have := List.length_pos_of_mem this
      omega
    | succ m ih =>
      intro j hm hk
      have hk' := hk
      unfold keepB at hk'
      simp only [Bool.not_eq_false', List.any_eq_true, List.mem_range, Bool.and_eq_true] at hk'
      obtain ⟨i, hi, _, hu⟩ := hk'
      cases hki : keepB l i
      · have hlt : ((List.range l.length).filter fun x => useB l x i).length < ((List.range l.length).filter fun x => useB l x j).length :=
          filter_len_lt _ _ _ (fun x _ hx => useB_trans hx hu) ⟨i, List.mem_range.2 hi, useB_irr l i, hu⟩
        obtain ⟨k, h1, h2, h3⟩ := ih i (by omega) hki
        exact ⟨k, h1, h2, useB_trans h3 hu⟩
      · exact ⟨i, hi, hki, hu⟩
  exact main _ j (Nat.le_refl _) hk

/-- a choice with another bid instead of the one at place i, from place k on -/
def exF (i y : Nat) : Nat → Bool → List Nat → List Nat
  | _, put, [] => if put then [] else [y]
  | k, put, x :: r => (if put = false ∧ y < x then [y] else []) ++ ((if k = i then [] else [x]) ++ exF i y (k + 1) (put || decide (y < x)) r)
def exch (c : List Nat) (i y : Nat) : List Nat := exF i y 0 false c
theorem exF_put (i y : Nat) : ∀ (k : Nat) (c : List Nat), exF i y k true c = if i < k then c else c.eraseIdx (i - k)
  | k, [] => by simp [exF]
  | k, x :: r => by
    have ih := exF_put i y (k + 1) r
    simp only [exF, Bool.true_eq_false, false_and, if_false, List.nil_append, Bool.true_or]
    rw [ih]
    by_cases h1 : i < k
    · have e1 : i < k + 1 := by omega
      have e2 : ¬ k = i := by omega
      simp [h1, e1, e2]
    · rw [if_neg h1]
      by_cases h2 : k = i
      · subst h2; simp
      · have e1 : ¬ i < k + 1 := by omega
        rw [if_neg h2, if_neg e1, show i - k = (i - (k + 1)) + 1 by omega, List.eraseIdx_cons_succ]; rfl
theorem exF_perm (i y : Nat) : ∀ (k : Nat) (c : List Nat), (exF i y k false c).Perm (y :: if i < k then c else c.eraseIdx (i - k))
  | k, [] => by simp [exF]
  | k, x :: r => by
    by_cases hy : y < x
    · simp only [exF, true_and, if_pos hy, Bool.false_or, decide_eq_true hy]
      rw [exF_put]
      show (y :: ((if k = i then [] else [x]) ++ _)).Perm _
      refine List.Perm.cons y ?_
      by_cases h1 : i < k
      · rw [if_neg (by omega), if_pos (by omega), if_pos h1]; exact List.Perm.refl _
      · by_cases h2 : k = i
        · subst h2; rw [if_pos rfl, if_pos (by omega), if_neg h1, Nat.sub_self]; exact List.Perm.refl _
        · rw [if_neg h2, if_neg (by omega), if_neg h1, show i - k = (i - (k + 1)) + 1 by omega, List.eraseIdx_cons_succ]; exact List.Perm.refl _
    · have ih := exF_perm i y (k + 1) r
      simp only [exF, true_and, if_neg hy, Bool.false_or, decide_eq_false hy, List.nil_append]
      by_cases h1 : i < k
      · rw [if_neg (by omega), if_pos h1]
        rw [if_pos (by omega)] at ih
        exact (List.Perm.cons x ih).trans (List.Perm.swap y x r)
      · by_cases h2 : k = i
        · subst h2
          rw [if_pos rfl, if_neg h1, Nat.sub_self]
          rw [if_pos (by omega)] at ih
          exact ih
        · rw [if_neg h2, if_neg h1, show i - k = (i - (k + 1)) + 1 by omega, List.eraseIdx_cons_succ]
          rw [if_neg (by omega)] at ih
          exact (List.Perm.cons x ih).trans (List.Perm.swap y x _)
theorem exF_low {i y : Nat} {b : Nat} : ∀ (k : Nat) (put : Bool) (c : List Nat), (∀ x ∈ c, b < x) → b < y → ∀ x ∈ exF i y k put c, b < x
  | k, put, [], _, hy, x, hx => by
    unfold exF at hx
    split at hx
    · cases hx
    · rw [List.mem_singleton.1 hx]; exact hy
  | k, put, z :: r, hc, hy, x, hx => by
    unfold exF at hx
    rcases List.mem_append.1 hx with h | h
    · split at h
      · rw [List.mem_singleton.1 h]; exact hy
      · cases h
    · rcases List.mem_append.1 h with h | h
      · split at h
        · cases h
        · rw [List.mem_singleton.1 h]; exact hc z List.mem_cons_self
      · exact exF_low _ _ r (fun u hu => hc u (List.mem_cons_of_mem _ hu)) hy x h
theorem exF_sorted {i y : Nat} : ∀ (k : Nat) (c : List Nat), c.Pairwise (· < ·) → y ∉ c → (exF i y k false c).Pairwise (· < ·)
  | k, [], _, _ => by simp [exF]
  | k, x :: r, hc, hn => by
    rw [List.pairwise_cons] at hc
    have hyx : y ≠ x := fun e => hn (e ▸ List.mem_cons_self)
    by_cases hy : y < x
    · simp only [exF, true_and, if_pos hy, Bool.false_or, decide_eq_true hy]
      rw [exF_put]
      have hsub : ∀ z ∈ (if i < k + 1 then r else r.eraseIdx (i - (k + 1))), z ∈ r := by
        intro z hz
        split at hz
        · exact hz
        · exact List.mem_of_mem_eraseIdx hz
      have hpr : (if i < k + 1 then r else r.eraseIdx (i - (k + 1))).Pairwise (· < ·) := by
        split
        · exact hc.2
        · exact hc.2.sublist (List.eraseIdx_sublist _ _)
      show (y :: ((if k = i then [] else [x]) ++ _)).Pairwise (· < ·)
      rw [List.pairwise_cons]
      constructor
      · intro z hz
        rcases List.mem_append.1 hz with h | h
        · split at h
          · cases h
          · rw [List.mem_singleton.1 h]; exact hy
        · have := hc.1 z (hsub z h); omega
      · split
        · exact hpr
        · rw [List.singleton_append, List.pairwise_cons]
          exact ⟨fun z hz => hc.1 z (hsub z hz), hpr⟩
    · have ih := exF_sorted (i := i) (y := y) (k + 1) r hc.2 (fun h => hn (List.mem_cons_of_mem _ h))
      simp only [exF, true_and, if_neg hy, Bool.false_or, decide_eq_false hy, List.nil_append]
      split
      · exact ih
      · rw [List.singleton_append, List.pairwise_cons]
        exact ⟨exF_low _ _ r hc.1 (by omega), ih⟩
theorem exF_less {i y : Nat} : ∀ (k : Nat) (c : List Nat) (x : Nat), k ≤ i → c[i - k]? = some x → c.Pairwise (· < ·) → y < x → y ∉ c → lessN (exF i y k false c) c = true
  | k, [], x, _, h, _, _, _ => by simp at h
  | k, z :: r, x, hk, h, hc, hy, hn => by
    rw [List.pairwise_cons] at hc
    have hyz : y ≠ z := fun e => hn (e ▸ List.mem_cons_self)
    by_cases hz : y < z
    · simp only [exF, true_and, if_pos hz, Bool.false_or, decide_eq_true hz]
      show lessN (y :: _) (z :: r) = true
      unfold lessN
      rw [if_neg hyz]; simpa using hz
    · simp only [exF, true_and, if_neg hz, Bool.false_or, decide_eq_false hz, List.nil_append]
      by_cases hki : k = i
      · subst hki
        rw [Nat.sub_self] at h
        simp at h
        omega
      · rw [if_neg hki]
        have ih := exF_less (i := i) (y := y) (k + 1) r x (by omega) (by rw [show i - k = (i - (k + 1)) + 1 by omega] at h; simpa using h) hc.2 hy (fun h => hn (List.mem_cons_of_mem _ h))
        show lessN (z :: _) (z :: r) = true
        unfold lessN
        rw [if_pos rfl]; exact ih
theorem val_perm (l : List Bd) {a b : List Nat} (h : a.Perm b) : val l a = val l b := by
  induction h with
  | nil => rfl
  | cons x _ ih => simp only [val, ih]
  | swap x y _ => simp only [val]; omega
  | trans _ _ h1 h2 => exact h1.trans h2
theorem val_erase (l : List Bd) : ∀ (c : List Nat) (i x : Nat), c[i]? = some x → val l c = pr l x + val l (c.eraseIdx i)
  | [], i, x, h => by simp at h
  | z :: r, 0, x, h => by simp at h; subst h; rfl
  | z :: r, i + 1, x, h => by
    have := val_erase l r i x (by simpa using h)
    simp only [List.eraseIdx_cons_succ, val]; omega
/-- the exchange is a feasible choice with a greater value, or with the same value and a lesser list -/
theorem exch_ok {l : List Bd} {c : List Nat} (hf : feas l c) {i j : Nat} (hi : c[i]? = some j) (hk : keepB l j = false) :
    ∃ k, k < l.length ∧ keepB l k = true ∧ (l.getD k bd0).1 = (l.getD j bd0).1 ∧ feas l (exch c i k) ∧ (val l c < val l (exch c i k) ∨ (val l (exch c i k) = val l c ∧ lessN (exch c i k) c = true)) := by
  obtain ⟨k, h1, h2, h3⟩ := keeper hk
  obtain ⟨f1, f2, f3⟩ := hf
  have hu := useB_iff.1 h3
  have hjc := List.mem_of_getElem? hi
  have hne : ∀ x ∈ c.eraseIdx i, confl (l.getD j bd0) (l.getD x bd0) = false := by
    intro x hx
    obtain ⟨p, hp, rfl⟩ := List.getElem_of_mem hx
    have hil := (List.getElem?_eq_some_iff.1 hi).1
    have hel : (c.eraseIdx i).length = c.length - 1 := by rw [List.length_eraseIdx, if_pos hil]
    rw [List.getElem_eraseIdx]
    have hij := (List.getElem?_eq_some_iff.1 hi).2
    have hpw := List.pairwise_iff_getElem.1 f3
    split
    · rename_i hpi
      have := hpw p i (by omega) hil hpi
      rw [hij] at this
      rw [confl_symm]; exact this
    · rename_i hpi
      have := hpw i (p + 1) hil (by omega) (by omega)
      rw [hij] at this
      exact this
  have hnk : ∀ x ∈ c.eraseIdx i, confl (l.getD k bd0) (l.getD x bd0) = false := by
    intro x hx
    have := hne x hx
    unfold confl at this ⊢
    rw [Bool.or_eq_false_iff] at this ⊢
    refine ⟨by rw [hu.1]; exact this.1, ?_⟩
    rw [List.any_eq_false] at this ⊢
    exact fun t ht => this.2 t (hu.2.2 t ht)
  have hkj : k ≠ j := fun e => by rw [e, useB_irr] at h3; cases h3
  have hkc : k ∉ c := by
    intro hkc
    have : k ∈ c.eraseIdx i := by
      obtain ⟨p, hp, rfl⟩ := List.getElem_of_mem hkc
      have hil := (List.getElem?_eq_some_iff.1 hi).1
      have hpi : p ≠ i := fun e => hkj (by subst e; exact (List.getElem?_eq_some_iff.1 hi).2)
      rw [List.mem_eraseIdx_iff_getElem?]
      exact ⟨p, hpi, List.getElem?_eq_getElem hp⟩
    have h4 := hne k this
    unfold confl at h4
    rw [Bool.or_eq_false_iff] at h4
    have := h4.1
    rw [hu.1] at this
    simp at this
  have hp : (exch c i k).Perm (k :: c.eraseIdx i) := by
    have := exF_perm i k 0 c
    rw [if_neg (by omega)] at this
    exact this
  have hv := val_perm l hp
  have hv2 := val_erase l c i j hi
  have hv3 : val l (k :: c.eraseIdx i) = pr l k + val l (c.eraseIdx i) := rfl
  have hpk : pr l k = (l.getD k bd0).2.1 := rfl
  have hpj : pr l j = (l.getD j bd0).2.1 := rfl
  refine ⟨k, h1, h2, hu.1, ⟨exF_sorted 0 c f1 hkc, fun x hx => ?_, ?_⟩, ?_⟩
  · rcases List.mem_cons.1 (hp.mem_iff.1 hx) with h | h
    · subst h; exact h1
    · exact f2 x (List.mem_of_mem_eraseIdx h)
  · refine (hp.pairwise_iff (fun {a b} h => by rw [confl_symm]; exact h)).2 ?_
    rw [List.pairwise_cons]
    exact ⟨hnk, f3.sublist (List.eraseIdx_sublist _ _)⟩
  · rcases hu.2.1 with h | ⟨h, h'⟩
    · left; omega
    · right
      exact ⟨by omega, exF_less 0 c j (Nat.zero_le _) (by simpa using hi) f1 h' hkc⟩
end Go.Proofs.Ytpbkfpkgbfifaaa
