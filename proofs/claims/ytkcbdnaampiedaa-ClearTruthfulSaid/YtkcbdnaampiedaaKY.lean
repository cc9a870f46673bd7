/- The plain law of ClearTruthful. -/
import Derived.Test.YtkcbdnaampiedaaKX
namespace Go.Proofs.Ytkcbdnaampiedaa

theorem raise_val_eq {l : List Bd} {i : Nat} {d : Int} (hi : i < l.length) : ∀ c : List Nat, c.Pairwise (· < ·) → val (raiseL l i d) c = val l c + if i ∈ c then d else 0
  | [], _ => by simp [val]
  | x :: c, h => by
    rw [List.pairwise_cons] at h
    have h3 := raise_val_eq (l := l) (i := i) (d := d) hi c h.2
    simp only [val, (raise_get (l := l) (i := i) (d := d) x).2.2, h3]
    by_cases e : x = i
    · have hn : i ∉ c := fun hc => by have := h.1 i hc; omega
      simp [e, hn, hi]
      omega
    · have e' : ¬ i = x := fun h => e h.symm
      simp only [List.mem_cons, e', false_or, e, false_and, if_false]
      omega
def gainS (l : List Bd) (i : Nat) (value : Int) : Int := if i ∈ (bestS l).1 then value - payS l i else 0
theorem raise_filter {l : List Bd} {i : Nat} {d b : Int} (hb : (l.getD i bd0).1 = b) : (raiseL l i d).filter (fun x => x.1 != b) = l.filter fun x => x.1 != b := by
  unfold raiseL
  split
  · rename_i x hx
    have hxb : x.1 = b := by rw [← hb, List.getD_eq_getElem?_getD, hx]; rfl
    obtain ⟨hl, e⟩ := List.getElem?_eq_some_iff.1 hx
    have e1 : l = l.take i ++ x :: l.drop (i + 1) := by rw [← e, List.getElem_cons_drop, List.take_append_drop]
    rw [List.set_eq_take_append_cons_drop, if_pos hl]
    conv => rhs; rw [e1]
    simp [List.filter_append, hxb]
  · rfl
/-- a bid that is alone of its bidder gains most by its true price -/
theorem truth {l : List Bd} {i : Nat} {d : Int} (hi : i < l.length) (hp : ∀ j, 0 ≤ pr l j) (hp' : ∀ j, 0 ≤ pr (raiseL l i d) j) (hal : ∀ j, j < l.length → (l.getD j bd0).1 = (l.getD i bd0).1 → j = i) :
    gainS (raiseL l i d) i (pr l i) ≤ gainS l i (pr l i) := by
  have h1 := bestS_opt hp
  have h2 := bestS_opt hp'
  have hpx : ∀ x ∈ l, 0 ≤ x.2.1 := fun x hx => by
    obtain ⟨j, hj, e⟩ := List.getElem_of_mem hx
    have := hp j
    rw [pr, List.getD_eq_getElem?_getD, List.getElem?_eq_getElem hj, e] at this
    exact this
  obtain ⟨W, hW⟩ : ∃ W, (bestS (l.filter fun x => x.1 != (l.getD i bd0).1)).2 = W := ⟨_, rfl⟩
  have hWm : IsMax (l.filter fun x => x.1 != (l.getD i bd0).1) W := by rw [← hW]; exact bestS_max fun x hx => hpx x (List.mem_filter.1 hx).1
  have hVm := bestS_max hpx
  have hWV : W ≤ (bestS l).2 := by
    obtain ⟨s, a, b, c⟩ := hWm.1
    rw [← c]; exact hVm.2 s (a.trans List.filter_sublist) b
  -- a choice without i is worth at most W
  have hno : ∀ c, feas l c → i ∉ c → val l c ≤ W := fun c hc hni => by
    rw [val_sum]
    refine hWm.2 _ ?_ (feas_map.1 hc.2.2)
    have := (pick_sub hc.1 hc.2.1).filter fun x => x.1 != (l.getD i bd0).1
    rw [List.filter_eq_self.2] at this
    · exact this
    · intro x hx
      obtain ⟨j, hj, rfl⟩ := List.mem_map.1 hx
      simp only [bne_iff_ne]
      intro e
      exact hni (hal j (hc.2.1 j hj) e ▸ hj)
  have hW' : (bestS ((raiseL l i d).filter fun x => x.1 != ((raiseL l i d).getD i bd0).1)).2 = W := by rw [(raise_get i).1, raise_filter rfl, hW]
  have hV := h1.2.1
  have hV' := h2.2.1
  have hf2 := (raise_feas _).1 h2.1
  have hc2 := h1.2.2 _ hf2
  have hr := raise_val_eq (d := d) hi _ hf2.1
  have hpi := (raise_get (l := l) (i := i) (d := d) i).2.2
  simp only [true_and, hi, if_true] at hpi
  unfold gainS payS
  rw [hW, hW', hpi]
  by_cases m2 : i ∈ (bestS (raiseL l i d)).1
  · rw [if_pos m2] at hr ⊢
    by_cases m1 : i ∈ (bestS l).1
    · rw [if_pos m1]; omega
    · rw [if_neg m1]
      have := hno _ h1.1 m1
      omega
  · rw [if_neg m2]
    by_cases m1 : i ∈ (bestS l).1
    · rw [if_pos m1]; omega
    · rw [if_neg m1]; exact Int.le_refl _
end Go.Proofs.Ytkcbdnaampiedaa
