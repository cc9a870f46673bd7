/- Plain functions on lists of integers: what the functions on bags compute. -/
import Derived.Below
namespace Go.Proofs.Ytpbkfpkgbfifaaa

def okU (x : Int) : Bool := decide (0 ≤ x) && decide (x ≤ 1099511627776)
def isBagB (l : List Int) : Bool := decide (l.length ≤ 64) && l.all okU
def fitB (a b : List Int) : Bool := decide (a.length = b.length) && (isBagB a && isBagB b)
def sameB (a b : List Int) : Bool := decide (a = b)

theorem okU_iff {x : Int} : okU x = true ↔ 0 ≤ x ∧ x ≤ 1099511627776 := by simp [okU]
theorem okU_neg {x : Int} (h : x < 0) : okU x = false := by simp [okU]; omega
theorem okU_big {x : Int} (h : 1099511627776 < x) : okU x = false := by simp [okU]; omega
theorem drop_at {α : Type} {l : List α} {k : Nat} {x : α} (h : l[k]? = some x) : l.drop k = x :: l.drop (k + 1) := by
  obtain ⟨hk, rfl⟩ := List.getElem?_eq_some_iff.1 h
  exact List.drop_eq_getElem_cons hk
theorem all_drop {l : List Int} {k : Nat} {x : Int} (h : l[k]? = some x) : (l.drop k).all okU = (okU x && (l.drop (k + 1)).all okU) := by rw [drop_at h]; rfl
theorem drop_end {α : Type} {l : List α} {k n : Nat} (hl : l.length = n) (h : n ≤ k) : l.drop k = [] := List.drop_eq_nil_of_le (by omega)

theorem isBag_len {l : List Int} (h : isBagB l = true) : l.length ≤ 64 := by simp [isBagB] at h; exact h.1
theorem isBag_mem {l : List Int} (h : isBagB l = true) {x : Int} (hx : x ∈ l) : 0 ≤ x ∧ x ≤ 1099511627776 := by
  simp only [isBagB, Bool.and_eq_true, List.all_eq_true] at h; exact okU_iff.1 (h.2 x hx)
theorem isBag_get {l : List Int} (h : isBagB l = true) {i : Nat} {x : Int} (hx : l[i]? = some x) : 0 ≤ x ∧ x ≤ 1099511627776 := isBag_mem h (List.mem_of_getElem? hx)
theorem fit_len {a b : List Int} (h : fitB a b = true) : a.length = b.length := by simp [fitB] at h; exact h.1
theorem fit_a {a b : List Int} (h : fitB a b = true) : isBagB a = true := by simp [fitB] at h; exact h.2.1
theorem fit_b {a b : List Int} (h : fitB a b = true) : isBagB b = true := by simp [fitB] at h; exact h.2.2

/-- how many times b can be taken from a, at most k -/
def mostF : Int → List Int → List Int → Int
  | k, x :: a, y :: b => mostF (if 0 < y then min k (x / y) else k) a b
  | k, [], _ => k
  | k, _ :: _, [] => k
def mostB (a b : List Int) : Int := if fitB a b then mostF 1048576 a b else 0
theorem mostF_step {a b : List Int} {i : Nat} {x y k : Int} (ha : a[i]? = some x) (hb : b[i]? = some y) :
    mostF k (a.drop i) (b.drop i) = mostF (if 0 < y then min k (x / y) else k) (a.drop (i + 1)) (b.drop (i + 1)) := by
  rw [drop_at ha, drop_at hb]; rfl
theorem mostF_nil (k : Int) (l : List Int) : mostF k [] l = k := by cases l <;> rfl
theorem most_lt {k x y : Int} (hy : 0 < y) : x < k * y ↔ x / y < k := by
  rw [Int.ediv_lt_iff_lt_mul hy]
theorem most_stop {x y : Int} (hy : 0 < y) : ¬ x < (x / y) * y := by
  rw [most_lt hy]; omega
theorem mul_le_60 {k y : Int} (h0 : 0 ≤ k) (h1 : k ≤ 1048576) (h2 : 0 ≤ y) (h3 : y ≤ 1099511627776) : 0 ≤ k * y ∧ k * y ≤ 1152921504606846976 := by
  refine ⟨Int.mul_nonneg h0 h2, ?_⟩
  calc k * y ≤ 1048576 * y := Int.mul_le_mul_of_nonneg_right h1 h2
    _ ≤ 1048576 * 1099511627776 := Int.mul_le_mul_of_nonneg_left h3 (by omega)
    _ ≤ 1152921504606846976 := by omega

theorem mid_get {α : Type} {out l : List α} {k : Nat} (h : out.length = k) : (out ++ l.drop k)[k]? = l[k]? := by
  rw [List.getElem?_append_right (by omega), h, Nat.sub_self, List.getElem?_drop, Nat.add_zero]
theorem mid_set {α : Type} {out l : List α} {k : Nat} {x v : α} (h : out.length = k) (hx : l[k]? = some x) : (out ++ l.drop k).set k v = (out ++ [v]) ++ l.drop (k + 1) := by
  rw [List.set_append_right _ _ (by omega), h, Nat.sub_self, drop_at hx]; simp

/-- one number of a generated bag -/
def bagE (l : List Int) (i : Nat) : Int := let k := (l.getD i 0) % 1099511627777; if 0 < k % 5 then k / 5 % 12 else k
def bagL (n : Nat) (l : List Int) (p : Nat) : List Int := (List.range n).map fun i => bagE l (p + i)
theorem bagE_ok (l : List Int) (i : Nat) : 0 ≤ bagE l i ∧ bagE l i ≤ 1099511627776 := by
  unfold bagE; simp only; split <;> omega
theorem bagL_len (n : Nat) (l : List Int) (p : Nat) : (bagL n l p).length = n := by simp [bagL]
theorem bagL_succ (n : Nat) (l : List Int) (p : Nat) : bagL (n + 1) l p = bagL n l p ++ [bagE l (p + n)] := by simp [bagL, List.range_succ]
theorem bagL_bag (n : Nat) (l : List Int) (p : Nat) (hn : n ≤ 64) : isBagB (bagL n l p) = true := by
  simp only [isBagB, Bool.and_eq_true, List.all_eq_true, decide_eq_true_eq]
  refine ⟨by rw [bagL_len]; exact hn, fun x hx => ?_⟩
  simp only [bagL, List.mem_map] at hx
  obtain ⟨i, _, rfl⟩ := hx
  exact okU_iff.2 (bagE_ok _ _)

/-- each number times k, or the limit's error (4) -/
def tm1 (k y : Int) : Int × Int := if 1099511627776 < y * k then (0, 4) else (y * k, 0)
/-- what a function makes of the numbers of two lists, one after the other, or the first error -/
def combF (f : Int → Int → Int × Int) : List Int → List Int → List Int × Int
  | x :: a, y :: b => if (f x y).2 ≠ 0 then ([], (f x y).2) else
      if (combF f a b).2 ≠ 0 then ([], (combF f a b).2) else ((f x y).1 :: (combF f a b).1, 0)
  | [], _ => ([], 0)
  | _ :: _, [] => ([], 0)
def pre (out : List Int) (r : List Int × Int) : List Int × Int := if r.2 ≠ 0 then ([], r.2) else (out ++ r.1, 0)
theorem pre_nil (f : Int → Int → Int × Int) (a b : List Int) : pre [] (combF f a b) = combF f a b := by
  unfold pre
  split
  · rename_i h
    cases a with
    | nil => simp [combF] at h
    | cons x a =>
      cases b with
      | nil => simp [combF] at h
      | cons y b =>
        simp only [combF] at h ⊢
        split
        · rfl
        · rename_i h1
          rw [if_neg h1] at h
          split
          · rename_i h2; rfl
          · rename_i h2; rw [if_neg h2] at h; simp at h
  · rename_i h
    simp at h
    rw [List.nil_append, ← h]
theorem comb_err {f : Int → Int → Int × Int} {a b out : List Int} {i : Nat} {x y : Int} (ha : a[i]? = some x) (hb : b[i]? = some y) (h : (f x y).2 ≠ 0) :
    pre out (combF f (a.drop i) (b.drop i)) = ([], (f x y).2) := by
  rw [drop_at ha, drop_at hb]
  simp only [combF, if_pos h, pre]
theorem comb_ok {f : Int → Int → Int × Int} {a b out : List Int} {i : Nat} {x y : Int} (ha : a[i]? = some x) (hb : b[i]? = some y) (h : (f x y).2 = 0) :
    pre out (combF f (a.drop i) (b.drop i)) = pre (out ++ [(f x y).1]) (combF f (a.drop (i + 1)) (b.drop (i + 1))) := by
  rw [drop_at ha, drop_at hb]
  simp only [combF, h, ne_eq, not_true_eq_false, if_false, pre]
  by_cases h2 : (combF f (a.drop (i + 1)) (b.drop (i + 1))).2 = 0
  · simp [h2]
  · simp [h2]
theorem comb_end {f : Int → Int → Int × Int} {l out : List Int} : pre out (combF f [] l) = (out, 0) := by cases l <;> simp [combF, pre]
def timesS (l : List Int) (k : Int) : List Int × Int := if isBagB l = true ∧ 0 ≤ k ∧ k ≤ 1048576 then combF (fun _ y => tm1 k y) l l else ([], 1)
def addS (a b : List Int) : List Int × Int := if fitB a b then combF (fun x y => if 1099511627776 < x + y then (0, 4) else (x + y, 0)) a b else ([], 1)
def subS (a b : List Int) : List Int × Int := if fitB a b then combF (fun x y => if x < y then (0, 10) else (x - y, 0)) a b else ([], 1)
def joinS (a b : List Int) : List Int := if fitB a b then (combF (fun x y => (max x y, 0)) a b).1 else []
def meetS (a b : List Int) : List Int := if fitB a b then (combF (fun x y => (min x y, 0)) a b).1 else []
end Go.Proofs.Ytpbkfpkgbfifaaa
