/- Reduce, plainly: the bids that no other bid makes useless. -/
import Derived.Test.YtpbkfpkgbfifaaaCQ
namespace Go.Proofs.Ytpbkfpkgbfifaaa

/-- bid i makes bid j useless -/
def useB (l : List Bd) (i j : Nat) : Bool :=
  let a := l.getD i bd0; let b := l.getD j bd0
  a.1 == b.1 && (decide (b.2.1 < a.2.1) || (a.2.1 == b.2.1 && decide (i < j))) && a.2.2.all fun t => b.2.2.contains t
/-- no other bid makes j useless -/
def keepB (l : List Bd) (j : Nat) : Bool := !((List.range l.length).any fun i => i != j && useB l i j)
def redS (l : List Bd) : List Nat := (List.range l.length).filter (keepB l)
/-- the bids of a bidder, in order -/
def ofB (l : List Bd) (k : Nat) (y : Int) : List Nat := (List.range k).filter fun i => (l.getD i bd0).1 == y
theorem ofB_succ (l : List Bd) (k : Nat) (y : Int) : ofB l (k + 1) y = if (l.getD k bd0).1 = y then ofB l k y ++ [k] else ofB l k y := by
  unfold ofB
  rw [List.range_succ, List.filter_append]
  by_cases h : (l.getD k bd0).1 = y
  · rw [if_pos h, List.filter_cons_of_pos (by simpa using h)]; rfl
  · rw [if_neg h, List.filter_cons_of_neg (by simpa using h)]; simp
theorem keep_of (l : List Bd) (j : Nat) : keepB l j = !((ofB l l.length (l.getD j bd0).1).any fun i => i != j && useB l i j) := by
  unfold keepB ofB
  congr 1
  rw [Bool.eq_iff_iff, List.any_eq_true, List.any_eq_true]
  constructor
  · rintro ⟨i, hi, h⟩
    refine ⟨i, List.mem_filter.2 ⟨hi, ?_⟩, h⟩
    rw [Bool.and_eq_true] at h
    have := h.2
    unfold useB at this
    simp only [Bool.and_eq_true] at this
    exact this.1.1
  · rintro ⟨i, hi, h⟩
    exact ⟨i, (List.mem_filter.1 hi).1, h⟩
end Go.Proofs.Ytpbkfpkgbfifaaa
