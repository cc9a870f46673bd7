
/- The model's search: all choices. -/
import Derived.Test.YtpbkfpkgbfifaaaKFe
namespace Go.Proofs.Ytpbkfpkgbfifaaa
open Go.RowKit

def refSt (l : List Bd) (wo : Int) (k : Nat) : List Nat × Int := ((List.range k).map (chF 0 l.length)).foldl (rstep l (okB l wo)) ([], 0)
theorem refSt_succ (l : List Bd) (wo : Int) (k : Nat) : refSt l wo (k + 1) = rstep l (okB l wo) (refSt l wo k) (chF 0 l.length k) := by
  unfold refSt
  rw [List.range_succ, List.map_append, List.foldl_append]
  rfl
theorem refSt_end (l : List Bd) (wo : Int) : refSt l wo (2 ^ l.length) = refBestS l wo := rfl
theorem feasZ_ch {l : List Bd} {n : Nat} (hl : l.length = n) (b : Nat) : feasZ l (ints (chF 0 n b)) = apartB l (chF 0 n b) := by
  have h := chF_range n 0 b
  have h1 : lotsOk l.length (-1) (ints (chF 0 n b)) = true := by
    have key : ∀ (c : List Nat) (last : Int), (∀ j ∈ c, last < (j : Int)) → c.Pairwise (· < ·) → (∀ j ∈ c, j < n) → lotsOk n last (ints c) = true := fun c => by
      induction c with
      | nil => intro _ _ _ _; rfl
      | cons x c ih =>
        intro last h1 h2 h3
        rw [List.pairwise_cons] at h2
        simp only [ints, List.map_cons, lotsOk, Bool.and_eq_true, decide_eq_true_eq]
        exact ⟨⟨h1 x List.mem_cons_self, by have := h3 x List.mem_cons_self; omega⟩, ih x (fun j hj => by have := h2.1 j hj; omega) h2.2 fun j hj => h3 j (List.mem_cons_of_mem _ hj)⟩
    rw [hl]
    exact key _ _ (fun j _ => by omega) h.1 fun j hj => by have := h.2 j hj; omega
  have h2 : toN (ints (chF 0 n b)) = chF 0 n b := by
    rw [toN, ints, List.map_map]
    conv => rhs; rw [← List.map_id (chF 0 n b)]
    apply List.map_congr_left
    intro x _
    simp
  rw [feasZ, h1, h2, Bool.true_and]
theorem chF_len {c : List Nat} {n : Nat} (h : c.Pairwise (· < ·) ∧ ∀ j ∈ c, 0 ≤ j ∧ j < 0 + n) : c.length ≤ n := by
  have key : ∀ (c : List Nat) (m k : Nat), c.Pairwise (· < ·) → (∀ j ∈ c, m ≤ j ∧ j < m + k) → c.length ≤ k := fun c => by
    induction c with
    | nil => intro _ _ _ _; exact Nat.zero_le _
    | cons x c ih =>
      intro m k h1 h2
      rw [List.pairwise_cons] at h1
      have hx := h2 x List.mem_cons_self
      have := ih (x + 1) (m + k - (x + 1)) h1.2 (fun j hj => by have := h1.1 j hj; have := h2 j (List.mem_cons_of_mem _ hj); omega)
      simp only [List.length_cons]
      omega
  exact key c 0 n h.1 h.2
theorem val_small {l : List Bd} {n : Nat} (hp : ∀ i, 0 ≤ pr l i ∧ pr l i ≤ 1099511627776) (hn : n ≤ 10) (b : Nat) : 0 ≤ val l (chF 0 n b) ∧ val l (chF 0 n b) ≤ 10995116277760 := by
  have h := val_le hp (chF 0 n b)
  have h2 := chF_len (chF_range n 0 b)
  omega

end Go.Proofs.Ytpbkfpkgbfifaaa
