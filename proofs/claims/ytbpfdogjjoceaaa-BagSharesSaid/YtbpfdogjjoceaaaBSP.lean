/- The plain law behind BagShares: sums over a turned order. -/
import Derived.Test.YtbpfdogjjoceaaaP
namespace Go.Proofs.Ytbpfdogjjoceaaa

def sm (f : Nat → Int) : Nat → Int
  | 0 => 0
  | n + 1 => sm f n + f n
theorem sm_shift (f : Nat → Int) (n : Nat) : sm (fun q => f (q + 1)) n = sm f (n + 1) - f 0 := by
  induction n with
  | zero => simp [sm]
  | succ n ih => rw [sm, ih, sm, sm]; simp only [sm]; omega
theorem sm_congr {f g : Nat → Int} {n : Nat} (h : ∀ q, q < n → f q = g q) : sm f n = sm g n := by
  induction n with
  | zero => rfl
  | succ n ih => rw [sm, sm, ih (fun q hq => h q (by omega)), h n (by omega)]
theorem sm_list (x : List Int) : sm (fun q => x.getD q 0) x.length = x.sum := by
  induction x with
  | nil => rfl
  | cons a l ih =>
    have h := sm_shift (fun q => (a :: l).getD q 0) l.length
    simp only [List.getD_cons_succ, List.getD_cons_zero] at h
    rw [List.length_cons, List.sum_cons, ← ih]
    omega
theorem sm_le {f : Nat → Int} (h : ∀ q, 0 ≤ f q) {j n : Nat} (hj : j ≤ n) : sm f j ≤ sm f n := by
  induction n with
  | zero => obtain rfl : j = 0 := by omega
            exact Int.le_refl _
  | succ n ih =>
    rcases Nat.lt_or_ge n j with h1 | h1
    · obtain rfl : j = n + 1 := by omega
      exact Int.le_refl _
    · have := ih h1
      have := h n
      rw [sm]; omega
/-- the order may be turned -/
theorem sm_turn (x : List Int) (t : Nat) : sm (fun q => x.getD ((q + t) % x.length) 0) x.length = x.sum := by
  induction t with
  | zero =>
    rw [← sm_list x]
    exact sm_congr fun q hq => by rw [Nat.add_zero, Nat.mod_eq_of_lt hq]
  | succ t ih =>
    have h := sm_shift (fun q => x.getD ((q + t) % x.length) 0) x.length
    have e : sm (fun q => x.getD ((q + (t + 1)) % x.length) 0) x.length = sm (fun q => x.getD ((q + 1 + t) % x.length) 0) x.length :=
      sm_congr fun q _ => by rw [show q + (t + 1) = q + 1 + t by omega]
    rw [e, h, sm, ih]
    have : (x.length + t) % x.length = (0 + t) % x.length := by rw [Nat.add_mod_left, Nat.zero_add]
    simp only [this]
    omega
def rowF (f : Nat → Int) (k : Nat) : List Int := (List.range k).map f
theorem rowF_len (f : Nat → Int) (k : Nat) : (rowF f k).length = k := by simp [rowF]
theorem rowF_get (f : Nat → Int) {k i : Nat} (h : i < k) : (rowF f k)[i]? = some (f i) := by simp [rowF, h]
theorem rowF_congr {f g : Nat → Int} {k : Nat} (h : ∀ i, i < k → f i = g i) : rowF f k = rowF g k := List.map_congr_left fun i hi => h i (by simpa using hi)
theorem rowF_bag {f : Nat → Int} {k : Nat} (hk : k ≤ 64) (h : ∀ i, i < k → 0 ≤ f i ∧ f i ≤ 1099511627776) : isBagB (rowF f k) = true := by
  simp only [isBagB, rowF_len, Bool.and_eq_true, decide_eq_true_eq, List.all_eq_true]
  refine ⟨hk, fun x hx => ?_⟩
  obtain ⟨i, hi, rfl⟩ := List.mem_map.1 hx
  exact okU_iff.2 (h i (by simpa using hi))
theorem comb_row {f g : Nat → Int} : ∀ (is : List Nat), (∀ i ∈ is, f i + g i ≤ 1099511627776) → combF (fun x y => if 1099511627776 < x + y then (0, 4) else (x + y, 0)) (is.map f) (is.map g) = (is.map fun i => f i + g i, 0)
  | [], _ => rfl
  | i :: is, h => by
    have h1 := h i List.mem_cons_self
    have ih := comb_row is (fun j hj => h j (List.mem_cons_of_mem _ hj))
    simp only [List.map_cons, combF, ih]
    rw [if_neg (show ¬ 1099511627776 < f i + g i by omega)]
    simp
/-- the sum of two rows that fit -/
theorem addS_row {f g : Nat → Int} {k : Nat} (hk : k ≤ 64) (hf : ∀ i, i < k → 0 ≤ f i) (hg : ∀ i, i < k → 0 ≤ g i) (h : ∀ i, i < k → f i + g i ≤ 1099511627776) : addS (rowF f k) (rowF g k) = (rowF (fun i => f i + g i) k, 0) := by
  have b1 : isBagB (rowF f k) = true := rowF_bag hk fun i hi => ⟨hf i hi, by have := h i hi; have := hg i hi; omega⟩
  have b2 : isBagB (rowF g k) = true := rowF_bag hk fun i hi => ⟨hg i hi, by have := h i hi; have := hf i hi; omega⟩
  have hfit : fitB (rowF f k) (rowF g k) = true := by simp [fitB, rowF_len, b1, b2]
  rw [addS, if_pos hfit]
  exact comb_row _ fun i hi => h i (by simpa using hi)
end Go.Proofs.Ytbpfdogjjoceaaa
