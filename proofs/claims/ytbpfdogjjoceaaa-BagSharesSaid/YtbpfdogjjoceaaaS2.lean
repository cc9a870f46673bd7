/- Plain facts for Split: quotas, the order by rests, one more for the first ones. -/
import Derived.Test.YtbpfdogjjoceaaaS1
import Derived.Test.YtbpfdogjjoceaaaP
namespace Go.Proofs.Ytbpfdogjjoceaaa

/-- i comes before j: its rest is greater, or equal and i is less -/
def prec (rs : List Int) (i j : Nat) : Bool := decide (rs.getD j 0 < rs.getD i 0) || (decide (rs.getD i 0 = rs.getD j 0) && decide (i < j))
theorem prec_iff {rs : List Int} {i j : Nat} : prec rs i j = true ↔ rs.getD j 0 < rs.getD i 0 ∨ (rs.getD i 0 = rs.getD j 0 ∧ i < j) := by simp [prec]
def ordL (rs : List Int) : List Nat := (List.range rs.length).mergeSort fun i j => !prec rs j i
theorem ordL_perm (rs : List Int) : (ordL rs).Perm (List.range rs.length) := List.mergeSort_perm _ _
theorem ordL_len (rs : List Int) : (ordL rs).length = rs.length := by rw [(ordL_perm rs).length_eq]; simp
theorem ordL_mem {rs : List Int} {i : Nat} : i ∈ ordL rs ↔ i < rs.length := by rw [(ordL_perm rs).mem_iff]; simp
theorem ordL_nodup (rs : List Int) : (ordL rs).Nodup := (ordL_perm rs).nodup_iff.2 List.nodup_range
theorem ordL_sorted (rs : List Int) : (ordL rs).Pairwise fun i j => prec rs j i = false := by
  have h := List.pairwise_mergeSort (le := fun i j => !prec rs j i) (fun a b c h1 h2 => by
      simp only [Bool.not_eq_true', Bool.eq_false_iff, ne_eq, prec_iff] at *; omega) (fun a b => by
      by_cases h : prec rs b a = true
      · have : ¬ prec rs a b = true := by rw [prec_iff] at *; omega
        simp [this]
      · simp [h]) (List.range rs.length)
  exact h.imp fun h => by simpa using h
theorem prec_total {rs : List Int} {i j : Nat} (h : i ≠ j) (hn : prec rs j i = false) : prec rs i j = true := by
  rw [prec_iff]
  have : ¬ prec rs j i = true := by simp [hn]
  rw [prec_iff] at this
  omega
theorem ordL_prec (rs : List Int) : (ordL rs).Pairwise fun i j => prec rs i j = true := by
  have h1 := ordL_sorted rs
  have h2 : (ordL rs).Pairwise fun i j => i ≠ j := ordL_nodup rs
  exact (h1.and h2).imp fun ⟨a, b⟩ => prec_total b a

/-- one more for each of the places -/
def bump (l : List Int) : List Nat → List Int
  | [] => l
  | i :: is => bump (l.set i (l.getD i 0 + 1)) is
theorem bump_len (l : List Int) (is : List Nat) : (bump l is).length = l.length := by
  induction is generalizing l with
  | nil => rfl
  | cons i is ih => rw [bump, ih]; simp
theorem bump_snoc (l : List Int) (is : List Nat) (i : Nat) : bump l (is ++ [i]) = (bump l is).set i ((bump l is).getD i 0 + 1) := by
  induction is generalizing l with
  | nil => rfl
  | cons j is ih => simp only [List.cons_append, bump]; rw [ih]
theorem bump_get (l : List Int) (is : List Nat) (h : is.Nodup) (j : Nat) (hj : j < l.length) : (bump l is).getD j 0 = l.getD j 0 + (if j ∈ is then 1 else 0) := by
  induction is generalizing l with
  | nil => simp [bump]
  | cons i is ih =>
    have hn := List.nodup_cons.1 h
    rw [bump, ih _ hn.2 (by simpa using hj)]
    simp only [List.getD_eq_getElem?_getD, List.getElem?_set, List.mem_cons]
    by_cases e : i = j
    · subst e
      rw [if_pos rfl, if_pos hj, if_neg hn.1, if_pos (.inl rfl)]
      simp
    · rw [if_neg e]
      by_cases hm : j ∈ is
      · simp [hm]
      · have : ¬ (j = i ∨ j ∈ is) := by rintro (h | h); exact e h.symm; exact hm h
        rw [if_neg hm, if_neg this]
def sumL (l : List Int) : Int := l.sum
def quos (t S : Int) (ws : List Int) : List Int := ws.map fun x => t * x / S
def rems (t S : Int) (ws : List Int) : List Int := ws.map fun x => t * x % S
def leftS (t S : Int) (ws : List Int) : Nat := (t - (quos t S ws).sum).toNat
def splitOk (t : Int) (ws : List Int) : Bool := okU t && (ws.all okU && (decide (0 < ws.sum) && decide (ws.sum ≤ 1152921504606846976)))
def splitL (t : Int) (ws : List Int) : List Int := bump (quos t ws.sum ws) ((ordL (rems t ws.sum ws)).take (leftS t ws.sum ws))
def splitS (t : Int) (ws : List Int) : List Int × Int := if splitOk t ws then (splitL t ws, 0) else ([], 1)

theorem sum_nonneg {l : List Int} (h : ∀ x ∈ l, 0 ≤ x) : 0 ≤ l.sum := by
  induction l with
  | nil => simp
  | cons a l ih => rw [List.sum_cons]; have := ih fun x hx => h x (by simp [hx]); have := h a (by simp); omega
theorem le_sum {l : List Int} (h : ∀ x ∈ l, 0 ≤ x) {x : Int} (hx : x ∈ l) : x ≤ l.sum := by
  induction l with
  | nil => simp at hx
  | cons a l ih =>
    rw [List.sum_cons]
    have h0 := sum_nonneg (l := l) fun x hx => h x (by simp [hx])
    have ha := h a (by simp)
    rcases List.mem_cons.1 hx with rfl | hx
    · omega
    · have := ih (fun x hx => h x (by simp [hx])) hx; omega
theorem sum_take_le {l : List Int} (h : ∀ x ∈ l, 0 ≤ x) (k : Nat) : (l.take k).sum ≤ l.sum := by
  have := List.take_append_drop k l
  have h2 : l.sum = (l.take k).sum + (l.drop k).sum := by rw [← List.sum_append, this]
  have := sum_nonneg (l := l.drop k) fun x hx => h x (List.mem_of_mem_drop hx)
  omega
/-- the quotas and the rests make up the total -/
theorem quos_rems (t S : Int) (ws : List Int) : S * (quos t S ws).sum + (rems t S ws).sum = t * ws.sum := by
  induction ws with
  | nil => simp [quos, rems]
  | cons a l ih =>
    simp only [quos, rems, List.map_cons, List.sum_cons] at *
    have := Int.mul_ediv_add_emod (t * a) S
    grind
theorem rems_nonneg {t S : Int} (hS : 0 < S) {ws : List Int} : ∀ x ∈ rems t S ws, 0 ≤ x ∧ x < S := by
  intro x hx
  simp only [rems, List.mem_map] at hx
  obtain ⟨y, _, rfl⟩ := hx
  exact ⟨Int.emod_nonneg _ (by omega), Int.emod_lt_of_pos _ hS⟩
theorem quos_nonneg {t S : Int} (ht : 0 ≤ t) (hS : 0 < S) {ws : List Int} (hw : ∀ x ∈ ws, 0 ≤ x) : ∀ x ∈ quos t S ws, 0 ≤ x := by
  intro x hx
  simp only [quos, List.mem_map] at hx
  obtain ⟨y, hy, rfl⟩ := hx
  exact Int.ediv_nonneg (Int.mul_nonneg ht (hw y hy)) (by omega)
/-- the sum of numbers below S, of which c are not 0, is at most c * (S - 1) -/
theorem sum_le_count {S : Int} (hS : 0 < S) : ∀ (l : List Int), (∀ x ∈ l, 0 ≤ x ∧ x < S) → l.sum ≤ (l.countP fun x => decide (0 < x) : Nat) * (S - 1)
  | [], _ => by simp
  | a :: l, h => by
    have ih := sum_le_count hS l fun x hx => h x (by simp [hx])
    have ha := h a (by simp)
    rw [List.sum_cons, List.countP_cons]
    by_cases h0 : 0 < a
    · simp only [h0, decide_true, if_true]
      rw [Int.natCast_add, Int.add_mul]; omega
    · simp only [h0, decide_false, Bool.false_eq_true, if_false, Nat.add_zero]; omega
theorem left_facts {t : Int} {ws : List Int} (hS : 0 < ws.sum) :
    0 ≤ t - (quos t ws.sum ws).sum ∧ leftS t ws.sum ws ≤ (rems t ws.sum ws).countP fun x => decide (0 < x) := by
  have h1 := quos_rems t ws.sum ws
  have h2 := rems_nonneg (t := t) hS (ws := ws)
  have h3 := sum_nonneg fun x hx => (h2 x hx).1
  have h4 := sum_le_count hS _ h2
  generalize hq : (quos t ws.sum ws).sum = q at *
  generalize hr : (rems t ws.sum ws).sum = r at *
  generalize (rems t ws.sum ws).countP (fun x => decide (0 < x)) = c at *
  unfold leftS
  rw [hq]
  generalize ws.sum = S at *
  have e : S * (t - q) = r := by grind
  have hge : 0 ≤ t - q := by
    rcases Int.lt_or_le (t - q) 0 with h | h
    · have := Int.mul_neg_of_pos_of_neg hS h; omega
    · exact h
  refine ⟨hge, ?_⟩
  have hle : t - q ≤ c := by
    rcases Int.lt_or_le (c : Int) (t - q) with h | h
    · have a1 : S * ((c : Int) + 1) ≤ S * (t - q) := Int.mul_le_mul_of_nonneg_left (by omega) (by omega)
      have a2 : S * ((c : Int) + 1) = c * (S - 1) + c + S := by grind
      omega
    · exact h
  omega
theorem left_le {t : Int} {ws : List Int} (hS : 0 < ws.sum) : leftS t ws.sum ws ≤ ws.length := by
  have := (left_facts (t := t) hS).2
  have := List.countP_le_length (p := fun x : Int => decide (0 < x)) (l := rems t ws.sum ws)
  simp only [rems, List.length_map] at *
  omega
/-- the rests that get one more are not 0 -/
theorem first_pos {rs : List Int} {m : Nat} (hm : m ≤ rs.countP fun x => decide (0 < x)) {i : Nat} (hi : i ∈ (ordL rs).take m) : 0 < rs.getD i 0 := by
  rcases Int.lt_or_le 0 (rs.getD i 0) with h | h
  · exact h
  exfalso
  have hil : i < rs.length := ordL_mem.1 (List.mem_of_mem_take hi)
  -- every place with a positive rest comes before i
  obtain ⟨k, hk, hki⟩ := List.getElem_of_mem hi
  have hkm : k < m := by rw [List.length_take] at hk; omega
  have hkl : k < (ordL rs).length := by rw [List.length_take] at hk; omega
  rw [List.getElem_take] at hki
  have hsp : (ordL rs).countP (fun j => decide (0 < rs.getD j 0)) = rs.countP fun x => decide (0 < x) := by
    rw [(ordL_perm rs).countP_eq]
    have : rs = (List.range rs.length).map fun j => rs.getD j 0 := by
      apply List.ext_getElem?
      intro j
      by_cases hj : j < rs.length
      · simp [hj]
      · simp [hj]
    conv => rhs; rw [this, List.countP_map]
    rfl
  have hcut : (ordL rs).countP (fun j => decide (0 < rs.getD j 0)) ≤ k := by
    rw [← List.take_append_drop k (ordL rs), List.countP_append]
    have hz : ((ordL rs).drop k).countP (fun j => decide (0 < rs.getD j 0)) = 0 := by
      rw [List.countP_eq_zero]
      intro j hj
      rw [List.drop_eq_getElem_cons hkl, List.mem_cons] at hj
      simp only [decide_eq_true_eq, Int.not_lt]
      rcases hj with rfl | hj
      · rw [hki]; exact h
      · have hp : prec rs ((ordL rs)[k]) j = true := by
          have h1 := ordL_prec rs
          rw [← List.take_append_drop k (ordL rs), List.pairwise_append] at h1
          have h2 := h1.2.1
          rw [List.drop_eq_getElem_cons hkl, List.pairwise_cons] at h2
          exact h2.1 j hj
        rw [hki, prec_iff] at hp
        omega
    have := List.countP_le_length (p := fun j => decide (0 < rs.getD j 0)) (l := (ordL rs).take k)
    rw [List.length_take] at this
    omega
  omega
end Go.Proofs.Ytbpfdogjjoceaaa
