/- The model's groups, plainly: labels that spread until each bid has the least index of its group. -/
import Derived.Test.YtpbkfpkgbfifaaaCT
namespace Go.Proofs.Ytpbkfpkgbfifaaa

def gin (l : List Bd) (i : Nat) (o : List Nat) (k : Nat) : List Nat := if confl (l.getD i bd0) (l.getD k bd0) = true ∧ o.getD k 0 < o.getD i 0 then o.set i (o.getD k 0) else o
def growK (l : List Bd) (i : Nat) (o : List Nat) (k : Nat) : List Nat := (List.range k).foldl (gin l i) o
def gpassK (l : List Bd) (o : List Nat) (i : Nat) : List Nat := (List.range i).foldl (fun o i => growK l i o l.length) o
def groupsK (l : List Bd) : Nat → List Nat
  | 0 => List.range l.length
  | p + 1 => gpassK l (groupsK l p) l.length
def groupsF (l : List Bd) : List Nat := groupsK l l.length
def refPartsF (l : List Bd) : List (List Nat) := ((List.range l.length).filter fun i => (groupsF l).getD i 0 == i).map fun i => (List.range l.length).filter fun k => (groupsF l).getD k 0 == i
theorem growK_succ (l : List Bd) (i : Nat) (o : List Nat) (k : Nat) : growK l i o (k + 1) = gin l i (growK l i o k) k := by unfold growK; rw [List.range_succ, List.foldl_append]; rfl
theorem gpassK_succ (l : List Bd) (o : List Nat) (i : Nat) : gpassK l o (i + 1) = growK l i (gpassK l o i) l.length := by unfold gpassK; rw [List.range_succ, List.foldl_append]; rfl

structure GI (l : List Bd) (o : List Nat) : Prop where
  len : o.length = l.length
  rc : ∀ k, k < l.length → Reach l k (o.getD k 0)
  le : ∀ k, k < l.length → o.getD k 0 ≤ k
theorem set_getD (o : List Nat) (i v x : Nat) (hi : i < o.length) : (o.set i v).getD x 0 = if x = i then v else o.getD x 0 := by
  rw [List.getD_eq_getElem?_getD, List.getD_eq_getElem?_getD, List.getElem?_set]
  by_cases h : i = x
  · subst h; simp [hi]
  · rw [if_neg h, if_neg (fun e => h e.symm)]
theorem gin_spec {l : List Bd} {o : List Nat} (h : GI l o) {i k : Nat} (hi : i < l.length) (hk : k < l.length) :
    GI l (gin l i o k) ∧ (∀ x, (gin l i o k).getD x 0 ≤ o.getD x 0) ∧ (confl (l.getD i bd0) (l.getD k bd0) = true → (gin l i o k).getD i 0 ≤ o.getD k 0) := by
  unfold gin
  split
  · rename_i hc
    have hi' : i < o.length := by rw [h.len]; exact hi
    refine ⟨⟨by simpa using h.len, fun x hx => ?_, fun x hx => ?_⟩, fun x => ?_, fun _ => ?_⟩
    · rw [set_getD _ _ _ _ hi']
      split
      · rename_i e; subst e
        exact (Reach.refl.step hk hc.1).trans (h.rc k hk)
      · exact h.rc x hx
    · rw [set_getD _ _ _ _ hi']
      split
      · rename_i e; subst e; have := h.le x hx; omega
      · exact h.le x hx
    · rw [set_getD _ _ _ _ hi']
      split
      · rename_i e; subst e; omega
      · exact Nat.le_refl _
    · rw [set_getD _ _ _ _ hi', if_pos rfl]; exact Nat.le_refl _
  · rename_i hc
    refine ⟨h, fun x => Nat.le_refl _, fun he => ?_⟩
    have : ¬ o.getD k 0 < o.getD i 0 := fun e => hc ⟨he, e⟩
    omega
theorem growK_spec {l : List Bd} {o : List Nat} (h : GI l o) {i : Nat} (hi : i < l.length) : ∀ k, k ≤ l.length →
    GI l (growK l i o k) ∧ (∀ x, (growK l i o k).getD x 0 ≤ o.getD x 0) ∧ (∀ j, j < k → confl (l.getD i bd0) (l.getD j bd0) = true → (growK l i o k).getD i 0 ≤ o.getD j 0) := by
  intro k
  induction k with
  | zero => intro _; exact ⟨h, fun x => Nat.le_refl _, fun j hj => absurd hj (by omega)⟩
  | succ k ih =>
    intro hk
    obtain ⟨a1, a2, a3⟩ := ih (by omega)
    obtain ⟨b1, b2, b3⟩ := gin_spec a1 hi (show k < l.length by omega)
    rw [growK_succ]
    refine ⟨b1, fun x => Nat.le_trans (b2 x) (a2 x), fun j hj hc => ?_⟩
    by_cases e : j = k
    · subst e; exact Nat.le_trans (b3 hc) (a2 j)
    · exact Nat.le_trans (b2 i) (a3 j (by omega) hc)
theorem gpassK_spec {l : List Bd} {o : List Nat} (h : GI l o) : ∀ i, i ≤ l.length →
    GI l (gpassK l o i) ∧ (∀ x, (gpassK l o i).getD x 0 ≤ o.getD x 0) ∧ (∀ x j, x < i → j < l.length → confl (l.getD x bd0) (l.getD j bd0) = true → (gpassK l o i).getD x 0 ≤ o.getD j 0) := by
  intro i
  induction i with
  | zero => intro _; exact ⟨h, fun x => Nat.le_refl _, fun x j hx => absurd hx (by omega)⟩
  | succ i ih =>
    intro hi
    obtain ⟨a1, a2, a3⟩ := ih (by omega)
    obtain ⟨b1, b2, b3⟩ := growK_spec a1 (show i < l.length by omega) l.length (Nat.le_refl _)
    rw [gpassK_succ]
    refine ⟨b1, fun x => Nat.le_trans (b2 x) (a2 x), fun x j hx hj hc => ?_⟩
    by_cases e : x = i
    · subst e; exact Nat.le_trans (b3 j hj hc) (a2 j)
    · exact Nat.le_trans (b2 x) (a3 x j (by omega) hj hc)

theorem least {P : Nat → Prop} : ∀ n, P n → ∃ m, P m ∧ ∀ x, P x → m ≤ x := by
  intro n
  induction n using Nat.strongRecOn with
  | ind n ih =>
    intro hn
    by_cases h : ∃ m, m < n ∧ P m
    · obtain ⟨m, h1, h2⟩ := h; exact ih m h1 h2
    · refine ⟨n, hn, fun x hx => ?_⟩
      rcases Nat.lt_or_ge x n with h1 | h1
      · exact absurd ⟨x, h1, hx⟩ h
      · exact h1
theorem least_fun (l : List Bd) : ∃ M : Nat → Nat, ∀ k, Reach l k (M k) ∧ ∀ x, Reach l k x → M k ≤ x := by
  have : ∀ k, ∃ m, Reach l k m ∧ ∀ x, Reach l k x → m ≤ x := fun k => least (P := Reach l k) k .refl
  exact ⟨fun k => Classical.choose (this k), fun k => Classical.choose_spec (this k)⟩
theorem least_same {l : List Bd} {M : Nat → Nat} (hM : ∀ k, Reach l k (M k) ∧ ∀ x, Reach l k x → M k ≤ x) {i j : Nat} (h : Reach l i j) (hi : i < l.length) : M i = M j := by
  have h1 := (hM i).2 _ (h.trans (hM j).1)
  have h2 := (hM j).2 _ ((h.symm hi).trans (hM i).1)
  omega
def wrong (l : List Bd) (M : Nat → Nat) (o : List Nat) : Nat := ((List.range l.length).filter fun k => o.getD k 0 != M k).length
theorem wrong_pass {l : List Bd} {M : Nat → Nat} (hM : ∀ k, Reach l k (M k) ∧ ∀ x, Reach l k x → M k ≤ x) {o : List Nat} (h : GI l o) : wrong l M (gpassK l o l.length) = 0 ∨ wrong l M (gpassK l o l.length) < wrong l M o := by
  obtain ⟨a1, a2, a3⟩ := gpassK_spec h l.length (Nat.le_refl _)
  generalize gpassK l o l.length = o' at a1 a2 a3 ⊢
  have mono : ∀ x ∈ List.range l.length, (o'.getD x 0 != M x) = true → (o.getD x 0 != M x) = true := by
    intro x hx h1
    rw [List.mem_range] at hx
    simp only [bne_iff_ne, ne_eq] at h1 ⊢
    intro e
    have h2 := (hM x).2 _ (a1.rc x hx)
    have h3 := a2 x
    omega
  by_cases hw : ∃ k, k < l.length ∧ o.getD k 0 ≠ M k
  · right
    obtain ⟨k, hk, hne⟩ := hw
    have hMl : M k < l.length := (hM k).1.lt hk
    have hback : Reach l (M k) k := (hM k).1.symm hk
    have edge : ∀ x, Reach l (M k) x → o.getD x 0 ≠ M x → ∃ a b, a < l.length ∧ b < l.length ∧ o.getD a 0 = M a ∧ o.getD b 0 ≠ M b ∧ confl (l.getD a bd0) (l.getD b bd0) = true := by
      intro x hx
      induction hx with
      | refl =>
        intro e
        have e1 : M (M k) = M k := (least_same hM (hM k).1 hk).symm
        have e2 := h.le (M k) hMl
        have e3 := (hM (M k)).2 _ (h.rc (M k) hMl)
        omega
      | step h1 hj hc ih =>
        rename_i a b
        intro e
        by_cases ha : o.getD a 0 = M a
        · exact ⟨a, b, h1.lt hMl, hj, ha, e, hc⟩
        · exact ih ha
    obtain ⟨a, b, ha, hb, e1, e2, hc⟩ := edge k hback hne
    refine filter_len_lt _ _ _ mono ⟨b, List.mem_range.2 hb, ?_, by simpa using e2⟩
    have h1 := a3 b a hb ha (by rw [confl_symm]; exact hc)
    have h2 := (hM b).2 _ (a1.rc b hb)
    have h3 : M a = M b := least_same hM (Reach.refl.step hb hc) ha
    have : o'.getD b 0 = M b := by omega
    rw [this]; simp
  · left
    unfold wrong
    rw [List.length_eq_zero_iff, List.filter_eq_nil_iff]
    intro x hx h1
    have := mono x hx h1
    exact hw ⟨x, List.mem_range.1 hx, by simpa using this⟩
theorem groupsK_spec {l : List Bd} {M : Nat → Nat} (hM : ∀ k, Reach l k (M k) ∧ ∀ x, Reach l k x → M k ≤ x) : ∀ p, GI l (groupsK l p) ∧ wrong l M (groupsK l p) ≤ l.length - p := by
  intro p
  induction p with
  | zero =>
    have hg : ∀ k, k < l.length → (List.range l.length).getD k 0 = k := fun k hk => by rw [List.getD_eq_getElem?_getD, List.getElem?_range hk]; rfl
    refine ⟨⟨by simp [groupsK], fun k hk => by rw [groupsK, hg k hk]; exact .refl, fun k hk => by rw [groupsK, hg k hk]; exact Nat.le_refl _⟩, ?_⟩
    have := List.length_filter_le (fun k => (groupsK l 0).getD k 0 != M k) (List.range l.length)
    rw [List.length_range] at this
    exact this
  | succ p ih =>
    obtain ⟨h1, h2⟩ := ih
    refine ⟨(gpassK_spec h1 l.length (Nat.le_refl _)).1, ?_⟩
    rw [groupsK]
    rcases wrong_pass hM h1 with h | h <;> omega
theorem groupsF_spec {l : List Bd} {M : Nat → Nat} (hM : ∀ k, Reach l k (M k) ∧ ∀ x, Reach l k x → M k ≤ x) {k : Nat} (hk : k < l.length) : (groupsF l).getD k 0 = M k := by
  have h := (groupsK_spec hM l.length).2
  rw [Nat.sub_self, Nat.le_zero] at h
  unfold wrong at h
  rw [List.length_eq_zero_iff, List.filter_eq_nil_iff] at h
  have := h k (List.mem_range.2 hk)
  unfold groupsF
  simpa using this
theorem groupsK_len (l : List Bd) (p : Nat) : (groupsK l p).length = l.length := by
  obtain ⟨M, hM⟩ := least_fun l
  exact (groupsK_spec hM p).1.len
open Classical in
theorem refParts_eq (l : List Bd) : refPartsF l = partsF l := by
  obtain ⟨M, hM⟩ := least_fun l
  rw [partsF_eq]
  unfold refPartsF heads
  have e1 : ((List.range l.length).filter fun i => (groupsF l).getD i 0 == i) = (List.range l.length).filter (fun i => decide (∀ j, j < i → ¬ Reach l j i)) := by
    refine List.filter_congr fun i hi => ?_
    rw [List.mem_range] at hi
    rw [groupsF_spec hM hi, Bool.eq_iff_iff, beq_iff_eq, decide_eq_true_eq]
    constructor
    · intro e j hj hr
      have := (hM i).2 j (hr.symm (by omega))
      omega
    · intro h
      have h1 := (hM i).2 i .refl
      rcases Nat.lt_or_ge (M i) i with h2 | h2
      · exact absurd ((hM i).1.symm hi) (h _ h2)
      · omega
  rw [e1]
  refine List.map_congr_left fun i hi => ?_
  rw [List.mem_filter, List.mem_range] at hi
  obtain ⟨hi, hh⟩ := hi
  rw [decide_eq_true_eq] at hh
  have hMi : M i = i := by
    have h1 := (hM i).2 i .refl
    rcases Nat.lt_or_ge (M i) i with h2 | h2
    · exact absurd ((hM i).1.symm hi) (hh _ h2)
    · omega
  unfold comp
  refine List.filter_congr fun k hk => ?_
  rw [List.mem_range] at hk
  rw [groupsF_spec hM hk, Bool.eq_iff_iff, beq_iff_eq, decide_eq_true_eq]
  constructor
  · intro e
    have := (hM k).1
    rw [e] at this
    exact this.symm hk
  · intro h
    rw [← least_same hM h hi]; exact hMi
end Go.Proofs.Ytpbkfpkgbfifaaa
