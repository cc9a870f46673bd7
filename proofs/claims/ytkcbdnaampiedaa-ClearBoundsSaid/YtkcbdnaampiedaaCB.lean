/- Bound, plainly: the fold over the map is the sum over the bidders; no feasible choice is worth more. -/
import Derived.Test.YtkcbdnaampiedaaKO
namespace Go.Proofs.Ytkcbdnaampiedaa

/-- the greatest surplus of a bidder's bids, or 0 -/
def sstep (ps : List Int) (b : Int) (out : Int) (x : Bd) : Int := if x.1 = b ∧ out < ownS ps x then ownS ps x else out
def sur (ps : List Int) (l : List Bd) (b : Int) : Int := l.foldl (sstep ps b) 0
theorem sur_snoc (ps : List Int) (l : List Bd) (x : Bd) (b : Int) : sur ps (l ++ [x]) b = sstep ps b (sur ps l b) x := by simp [sur, List.foldl_append]
def fstep (acc : List Int) (x : Bd) : List Int := if x.1 ∈ acc then acc else acc ++ [x.1]
def firsts (l : List Bd) : List Int := l.foldl fstep []
theorem firsts_snoc (l : List Bd) (x : Bd) : firsts (l ++ [x]) = fstep (firsts l) x := by simp [firsts, List.foldl_append]
theorem fold_mem : ∀ (l : List Bd) (acc : List Int) (b : Int), b ∈ l.foldl fstep acc ↔ b ∈ acc ∨ ∃ x ∈ l, x.1 = b
  | [], acc, b => by simp
  | x :: l, acc, b => by
    rw [List.foldl_cons, fold_mem l]
    unfold fstep
    split
    · rename_i h
      constructor
      · rintro (h' | ⟨y, hy, e⟩)
        · exact .inl h'
        · exact .inr ⟨y, List.mem_cons_of_mem _ hy, e⟩
      · rintro (h' | ⟨y, hy, e⟩)
        · exact .inl h'
        · rcases List.mem_cons.1 hy with rfl | hy
          · exact .inl (e ▸ h)
          · exact .inr ⟨y, hy, e⟩
    · simp only [List.mem_append, List.mem_cons, List.not_mem_nil, or_false, exists_eq_or_imp]
      constructor
      · rintro ((h' | h') | h')
        · exact .inl h'
        · exact .inr (.inl h'.symm)
        · exact .inr (.inr h')
      · rintro (h' | h' | h')
        · exact .inl (.inl h')
        · exact .inl (.inr h'.symm)
        · exact .inr h'
theorem firsts_mem (l : List Bd) (b : Int) : b ∈ firsts l ↔ ∃ x ∈ l, x.1 = b := by unfold firsts; rw [fold_mem]; simp
theorem fold_nodup : ∀ (l : List Bd) (acc : List Int), acc.Nodup → (l.foldl fstep acc).Nodup
  | [], acc, h => h
  | x :: l, acc, h => by
    rw [List.foldl_cons]
    refine fold_nodup l _ ?_
    unfold fstep
    split
    · exact h
    · rename_i hx
      rw [List.nodup_append]
      exact ⟨h, by simp, fun a ha b hb e => by simp at hb; subst hb; subst e; exact hx ha⟩
theorem firsts_nodup (l : List Bd) : (firsts l).Nodup := fold_nodup l [] List.nodup_nil
theorem sum_turn {f g : Int → Int} {x : Int} (hg : ∀ b, b ≠ x → g b = f b) : ∀ bs : List Int, bs.Nodup → (bs.map g).sum = (bs.map f).sum + if x ∈ bs then g x - f x else 0
  | [], _ => by simp
  | b :: bs, h => by
    rw [List.nodup_cons] at h
    have ih := sum_turn hg bs h.2
    simp only [List.map_cons, List.sum_cons, ih, List.mem_cons]
    by_cases e : x = b
    · subst e
      rw [if_neg h.1, if_pos (.inl rfl)]
      omega
    · rw [hg b (fun e' => e e'.symm)]
      simp only [e, false_or]
      omega
theorem sur_none {ps : List Int} {b : Int} : ∀ l : List Bd, (∀ x ∈ l, x.1 ≠ b) → sur ps l b = 0 := fun l h => by
  unfold sur
  have : ∀ (l : List Bd) (a : Int), (∀ x ∈ l, x.1 ≠ b) → l.foldl (sstep ps b) a = a := fun l => by
    induction l with
    | nil => intro a _; rfl
    | cons x l ih =>
      intro a h
      rw [List.foldl_cons, show sstep ps b a x = a by unfold sstep; rw [if_neg (fun hh => h x List.mem_cons_self hh.1)]]
      exact ih a fun y hy => h y (List.mem_cons_of_mem _ hy)
  exact this l 0 h
def surs (ps : List Int) (l : List Bd) : Int := ((firsts l).map (sur ps l)).sum
theorem surs_snoc (ps : List Int) (l : List Bd) (x : Bd) : surs ps (l ++ [x]) = surs ps l + (sur ps (l ++ [x]) x.1 - sur ps l x.1) := by
  have hg : ∀ b, b ≠ x.1 → sur ps (l ++ [x]) b = sur ps l b := fun b hb => by rw [sur_snoc, sstep, if_neg (fun h => hb h.1.symm)]
  unfold surs
  rw [firsts_snoc, fstep]
  split
  · rename_i h
    rw [sum_turn hg _ (firsts_nodup l), if_pos h]
  · rename_i h
    have hn : sur ps l x.1 = 0 := sur_none l fun y hy e => h ((firsts_mem l x.1).2 ⟨y, hy, e⟩)
    rw [List.map_append, List.sum_append, sum_turn hg _ (firsts_nodup l), if_neg h, hn]
    simp
theorem bfold (ps : List Int) : ∀ (l2 l1 : List Bd), l2.foldl (bstep ps) (sur ps l1, ps.sum + surs ps l1) = (sur ps (l1 ++ l2), ps.sum + surs ps (l1 ++ l2))
  | [], l1 => by simp
  | x :: l2, l1 => by
    have hs : bstep ps (sur ps l1, ps.sum + surs ps l1) x = (sur ps (l1 ++ [x]), ps.sum + surs ps (l1 ++ [x])) := by
      have hx := sur_snoc ps l1 x x.1
      unfold bstep
      simp only
      split
      · rename_i h
        rw [sstep, if_pos ⟨rfl, by omega⟩] at hx
        refine Prod.ext ?_ ?_
        · funext y
          simp only
          rw [sur_snoc, sstep]
          by_cases e : y = x.1
          · subst e; rw [if_pos rfl, if_pos ⟨rfl, by omega⟩]
          · rw [if_neg e, if_neg (fun h => e h.1.symm)]
        · simp only
          rw [surs_snoc, hx]
          omega
      · rename_i h
        rw [sstep, if_neg (fun hh => h (by omega))] at hx
        refine Prod.ext ?_ ?_
        · funext y
          simp only
          rw [sur_snoc, sstep]
          by_cases e : x.1 = y
          · subst e; rw [if_neg (fun hh => h (by omega))]
          · rw [if_neg (fun h => e h.1)]
        · simp only
          rw [surs_snoc, hx]
          omega
    rw [List.foldl_cons, hs, bfold ps l2]
    simp
theorem boundS_eq (ps : List Int) (l : List Bd) : boundS ps l = ps.sum + surs ps l := by
  have := bfold ps l []
  unfold boundS
  have e : (fun _ => (0 : Int), ps.sum) = (sur ps [], ps.sum + surs ps []) := by
    refine Prod.ext ?_ ?_
    · funext b; rfl
    · simp [surs, firsts]
  rw [e, this]
  simp
end Go.Proofs.Ytkcbdnaampiedaa
